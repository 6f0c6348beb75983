/-
  Put together out of several texts, each in its own namespace's block. Conditions: as each theorem states them.
-/
import Derived.Test.YtngginofamlkkaaGreatDoorQPwb
import Derived.Test.YtngginofamlkkaaGreatDoorQGb
noncomputable section
namespace Go.Proofs.YtngginofamlkkaaGreatDoor
open Go Go.RowKit
set_option maxRecDepth 100000
set_option maxHeartbeats 8000000
def retP (Post : Value → Prop) (r : Out) (_ : List (List Value)) : Prop := match r with | .ret v => Post v | .pan _ => False
theorem pureX {P : Program} {f : FuncId} {args : List Value} {Post : Value → Prop} (h : SpecX P f 0 (hpOf []) args (xpost 0 (retP Post))) : Pure P f args Post := by
 intro W ρ w args' hrel hargs
 refine (h W ρ w args' (fun b hb => by omega) hrel hargs).mono ?_
 rintro e w' ⟨r, hp', nx', ρ', hP, hE, hR, hS⟩
 unfold xpost at hP
 obtain ⟨_, hv⟩ := hP
 cases r with
 | pan v => exact hv.elim
 | ret v =>
 obtain ⟨v', e1, e2⟩ := hE
 exact ⟨v, hp', nx', v', ρ', hv, e1, e2, hR, hS⟩
theorem ok_rcross : EntOk Tryz.prog ⟨232, c_cross⟩ := by
 rintro args Post ⟨a, b, c, rfl, ha, hb, hc, h⟩
 refine pure_P (vc := noCall) noCall_ok mixed (by kernel_rfl) (by kernel_rfl) _ (e_rcross a b c _ _) ?_
 rw [← cross_wrap ha hb hc] at h
 simp only [true_and]
 exact h
theorem ok_rsgn : EntOk Tryz.prog ⟨231, c_sgn⟩ := by
 intro args Post hc
 unfold c_sgn at hc
 dsimp only at hc
 split at hc
 case h_2 => exact hc.elim
 rename_i n
 refine pure_P noCall_ok mixed (by kernel_rfl) (by kernel_rfl) _ (e_rsgn n _ _) ?_
 simp only [true_and]
 have e : (if 1 < (if -1 > n then -1 else n) then 1 else if -1 > n then -1 else n) = sgnZ n := by
  rcases sgnZ_cases n with ⟨h, e⟩ | ⟨h, e⟩ | ⟨h, e⟩
  ·rw [e]
   by_cases h1 : -1 > n
   ·rw [if_pos h1, if_neg (by decide)]
   ·rw [if_neg h1, if_neg (by omega)]; omega
  ·rw [e, if_neg (show ¬ (-1 > n) by omega), if_neg (by omega), h]
  ·rw [e, if_neg (show ¬ (-1 > n) by omega)]
   by_cases h1 : 1 < n
   ·rw [if_pos h1]
   ·rw [if_neg h1]; omega
 rw [e]
 exact hc
theorem ok_ron : EntOk Tryz.prog ⟨233, c_btw⟩ := by
 rintro args Post ⟨a, b, q, rfl, h⟩
 refine pure_P noCall_ok mixed (by kernel_rfl) (by kernel_rfl) _ (e_ron a b q _ _) ?_
 simp only [true_and, min_if, max_if]
 have yes : (min a.x b.x ≤ q.x ∧ q.x ≤ max a.x b.x ∧ min a.y b.y ≤ q.y ∧ q.y ≤ max a.y b.y) → Post (.bool true) := fun hp => by rwa [decide_eq_true hp] at h
 have no : ¬ (min a.x b.x ≤ q.x ∧ q.x ≤ max a.x b.x ∧ min a.y b.y ≤ q.y ∧ q.y ≤ max a.y b.y) → Post (.bool false) := fun hp => by rwa [decide_eq_false hp] at h
 refine ifD (fun h2 => ?_) (fun h2 => no fun hp => h2 hp.1)
 refine ifD (fun h3 => ?_) (fun h3 => no fun hp => h3 hp.2.1)
 refine ifD (fun h4 => ?_) (fun h4 => no fun hp => h4 hp.2.2.1)
 exact ifD (fun h5 => yes ⟨h2, h3, h4, h5⟩) (fun h5 => no fun hp => h5 hp.2.2.2)
theorem sgnZ_zero (p : Int) : sgnZ p = 0 ↔ p = 0 := by
 rcases sgnZ_cases p with ⟨h, e⟩ | ⟨h, e⟩ | ⟨h, e⟩ <;> omega
theorem ok_touch : EntOk Tryz.prog ⟨200, c_meetP⟩ := by
 rintro args Post ⟨a, b, c, d, rfl, ha, hb, hc, hd, h⟩
 refine pure_P (tabCall_ok (by
  intro e he
  simp only [List.mem_cons, List.not_mem_nil, or_false] at he
  rcases he with rfl | rfl | rfl
  ·exact ok_rcross
  ·exact ok_rsgn
  ·exact ok_ron) noCall_ok) mixed (by kernel_rfl) (by kernel_rfl) _ (e_touch a b c d _ _) ?_
 simp only [true_and, sgn_opp, sgnZ_zero]
 have yes : meetP a b c d → Post (.bool true) := fun hp => by rwa [decide_eq_true hp] at h
 have no : ¬ meetP a b c d → Post (.bool false) := fun hp => by rwa [decide_eq_false hp] at h
 refine ⟨a, b, c, rfl, ha, hb, hc, a, b, d, rfl, ha, hb, hd, c, d, a, rfl, hc, hd, ha, c, d, b, rfl, hc, hd, hb, ?_⟩
 repeat' (first
  | refine ifD (fun _ => ?_) (fun _ => ?_)
  | exact yes (.inr (.inr (.inr (.inr ⟨by assumption, by assumption⟩))))
  | exact yes (.inl ⟨by assumption, by assumption⟩)
  | exact yes (.inr (.inl ⟨by assumption, by assumption⟩))
  | exact yes (.inr (.inr (.inl ⟨by assumption, by assumption⟩)))
  | exact yes (.inr (.inr (.inr (.inl ⟨by assumption, by assumption⟩))))
  | exact no (by rintro (⟨h, hb⟩ | ⟨h, hb⟩ | ⟨h, hb⟩ | ⟨h, hb⟩ | ⟨h, hb⟩) <;> contradiction)
  | refine ⟨_, _, _, rfl, ?_⟩)
theorem vcEd_ok : VCallOk Tryz.prog vcEd := tabCall_ok (by
 intro e he
 simp only [List.mem_cons, List.not_mem_nil, or_false] at he
 subst he
 exact ok_touch) noCall_ok
theorem ok_edges : EntOk Tryz.prog ⟨199, c_edges⟩ := by
 rintro args Post ⟨p, q, rfl, hp, hq, np, nq, h⟩
 have yes : crossC p q → Post (.bool true) := fun hp => by rwa [decide_eq_true hp] at h
 have no : ¬ crossC p q → Post (.bool false) := fun hp => by rwa [decide_eq_false hp] at h
 refine pure_P vcEd_ok mixed (by kernel_rfl) (by kernel_rfl) _ (e_edges p.length q.length (encL p) (encL q) _ _) ?_
 simp only [true_and]
 refine down (n := p.length) (p := fun k => (∀ i, i < k → ∀ t, t < q.length → ¬ meetP (cyc p i) (cyc p (i + 1)) (cyc q t) (cyc q (t + 1))) → OkP 199 [trPt p, trPt q, fnV 200] 2 Post (stV [(0, some (trPt p)), (1, some (trPt q)), (2, some (fnV 200)), (11, some (trPt p)), (12, some (.int .i64 p.length)), (13, some (.int .i64 k))] [] 0)) (fun hall => ?_) (fun k h1 ih hall => ?_) (fun i hi => by omega)
 ·refine ok_P vcEd_ok mixed _ (l_edges p.length q.length p.length (encL p) (encL q) _ _) ?_
  simp only [true_and]
  refine ifD (fun hlt => by omega) (fun _ => no ?_)
  rintro ⟨i, hi, t, ht, hm⟩
  exact hall i hi t ht hm
 ·have h0 : 0 < p.length := by omega
  have hk : ((k : Nat) : Int).toNat = k := Int.toNat_natCast k
  obtain ⟨c0, c1⟩ := cell_cyc0 h1
  refine ok_P vcEd_ok mixed _ (l_edges p.length q.length k (encL p) (encL q) _ _) ?_
  simp only [true_and, and_true, hk, c0, c1, toI_int]
  refine ifD (fun _ => ⟨⟨by omega, by omega⟩, by decide, ?_⟩) (fun h' => by omega)
  refine down (n := q.length) (p := fun j => (∀ t, t < j → ¬ meetP (cyc p k) (cyc p (k + 1)) (cyc q t) (cyc q (t + 1))) → OkP 199 [trPt p, trPt q, fnV 200] 5 Post (stV [(0, some (trPt p)), (1, some (trPt q)), (2, some (fnV 200)), (7, some (.int .i64 k)), (8, some (.pointer (some ⟨0, 0, none⟩))), (11, some (trPt p)), (12, some (.int .i64 p.length)), (13, some (.int .i64 k)), (18, some (trPt q)), (19, some (.int .i64 q.length)), (20, some (.int .i64 j))] [(0, some (.cells [.int .i64 (cyc p k).x, .int .i64 (cyc p k).y] true))] 1)) (fun hin => ?_) (fun j j1 jh hin => ?_) (fun i hi => by omega)
  ·refine ok_P vcEd_ok mixed _ (m_edges p.length q.length k q.length (cyc p k) (encL p) (encL q) _ _) ?_
   simp only [true_and, and_true, wrapSucc (show k < 2 ^ 62 by omega)]
   refine ifD (fun hlt => by omega) (fun _ => ih fun i hi t ht => ?_)
   rcases Nat.lt_or_ge i k with h' | h'
   ·exact hall i h' t ht
   ·rw [show i = k by omega]; exact hin t ht
  ·have q0 : 0 < q.length := by omega
   have hk1 : (((k + 1) % p.length : Nat) : Int).toNat = (k + 1) % p.length := Int.toNat_natCast _
   have hj : ((j : Nat) : Int).toNat = j := Int.toNat_natCast j
   have hj1 : (((j + 1) % q.length : Nat) : Int).toNat = (j + 1) % q.length := Int.toNat_natCast _
   have hm := Nat.mod_lt (k + 1) h0
   have hmj := Nat.mod_lt (j + 1) q0
   obtain ⟨d0, d1⟩ := cell_cyc h0 (k + 1)
   obtain ⟨f0, f1⟩ := cell_cyc0 j1
   obtain ⟨g0, g1⟩ := cell_cyc q0 (j + 1)
   refine ok_P vcEd_ok mixed _ (m_edges p.length q.length k j (cyc p k) (encL p) (encL q) _ _) ?_
   simp only [true_and, and_true, hj, tmN, hk1, hj1, d0, d1, f0, f1, g0, g1, toI_int, wrapSucc (show k < 2 ^ 62 by omega), wrapSucc (show j < 2 ^ 62 by omega)]
   refine ifD (fun _ => ⟨⟨by omega, by omega⟩, by decide, fun h => by omega, ⟨by omega, by omega⟩, fun h => by omega, ⟨by omega, by omega⟩, cyc p k, cyc p (k + 1), cyc q j, cyc q (j + 1), rfl, near_cyc np h0 k, near_cyc np h0 (k + 1), near_cyc nq q0 j, near_cyc nq q0 (j + 1), ifD (fun hm => yes ⟨k, h1, j, j1, hm⟩) (fun hm => jh fun t ht => ?_)⟩) (fun h' => by omega)
   rcases Nat.lt_or_ge t j with h' | h'
   ·exact hin t h'
   ·rw [show t = j by omega]; exact hm
theorem callIW_ok : PCallOk Tryz.prog callIW := inlP_ok mixed (ofV_ok (tabCall_ok (by
 intro e he
 simp only [List.mem_cons, List.not_mem_nil, or_false] at he
 subst he
 exact ok_pwhere) noCall_ok)) 2
theorem ok_idxW : XEntOk Tryz.prog ⟨228, c_idxW⟩ := by
 rintro args conts Post ⟨l, o, rfl, rfl, hl, ho, h⟩
 refine spec_X (conts := [[trPt o]]) callIW_ok mixed (by kernel_rfl) (by kernel_rfl) _ (e_idxW l.length o.length (encL l) (encL o) _ _) ?_
 simp only [true_and]
 refine down (n := l.length) (p := fun k => (∀ i, i < k → whereP o (cyc l i) = 1) → OkX Tryz.prog 228 [trPt l, fnW] 1 Post (lpC Tryz.prog 228 2) (lpK Tryz.prog 228 2) (stV [(0, some (trPt l)), (1, some fnW), (7, some (.int .i64 l.length)), (8, some (.int .i64 k))] [(0, some (.cells [trPt o] true))] 1)) (fun hall => ?_) (fun k h1 ih hall => ?_) (fun i hi => by omega)
 ·refine ok_X callIW_ok mixed _ (l_idxW l.length o.length l.length (encL l) (encL o) _ _) ?_
  simp only [true_and]
  refine ifD (fun hlt => by omega) (fun _ => h (-1) ⟨fun h => by omega, fun hp => ?_⟩)
  obtain ⟨p, hp, hf⟩ := hp
  obtain ⟨i, hi, rfl⟩ := List.mem_iff_getElem.1 hp
  have := hall i hi
  rw [cyc_lt hi, cor_at hi] at this
  exact absurd this hf
 ·refine ok_X callIW_ok mixed _ (l_idxW l.length o.length k (encL l) (encL o) _ _) ?_
  have hk : ((k : Nat) : Int).toNat = k := Int.toNat_natCast k
  obtain ⟨c0, c1⟩ := cell_cyc0 h1
  simp only [true_and, and_true, hk, c0, c1, toI_int, wrapSucc (show k < 2 ^ 62 by omega)]
  refine ifD (fun _ => ⟨⟨by omega, by omega⟩, o, cyc l k, rfl, ho, ifN (fun hw => h k ⟨fun _ => ⟨_, cyc_mem (by omega) k, hw⟩, fun _ => by omega⟩) (fun hw => ih fun i hi => ?_)⟩) (fun h' => by omega)
  rcases Nat.lt_or_ge i k with h' | h'
  ·exact hall i h'
  ·rw [show i = k by omega]; exact hw
theorem callCW_ok : PCallOk Tryz.prog callCW := xtabCall_ok (by
 intro e he
 simp only [List.mem_cons, List.not_mem_nil, or_false] at he
 subst he
 exact ok_idxW) (ofV_ok noCall_ok)
theorem ok_conW : XEntOk Tryz.prog ⟨195, c_conW⟩ := by
 rintro args conts Post ⟨l, o, rfl, rfl, hl, ho, h⟩
 refine spec_X (conts := [[trPt o]]) callCW_ok mixed (by kernel_rfl) (by kernel_rfl) _ (e_conW l.length o.length (encL l) (encL o) _ _) ?_
 simp only [true_and, and_true]
 refine ⟨l, o, rfl, rfl, hl, ho, fun i hi => ifD (fun h1 => ?_) (fun h1 => ?_)⟩
 ·rwa [decide_eq_true (hi.1 h1)] at h
 ·rwa [decide_eq_false (fun hp => h1 (hi.2 hp))] at h
theorem callWi_ok : PCallOk Tryz.prog callWi := xtabCall_ok (by
 intro e he
 simp only [List.mem_cons, List.not_mem_nil, or_false] at he
 subst he
 exact ok_conW) (ofV_ok (tabCall_ok (by
 intro e he
 simp only [List.mem_cons, List.not_mem_nil, or_false] at he
 subst he
 exact ok_edges) noCall_ok))
theorem ok_within : EntOk Tryz.prog ⟨122, c_within⟩ := by
 rintro args Post ⟨hh, o, rfl, l1, l2, n1, n2, h⟩
 refine pureX ?_
 refine spec_X (conts := []) callWi_ok mixed (by kernel_rfl) (by kernel_rfl) [] (e_within hh.length o.length (encL hh) (encL o) _ _) ?_
 simp only [true_and, and_true]
 have yes : withinC hh o → retP Post (.ret (.bool true)) [] := fun hp => by rw [decide_eq_true hp] at h; exact h
 have no : ¬ withinC hh o → retP Post (.ret (.bool false)) [] := fun hp => by rw [decide_eq_false hp] at h; exact h
 refine ⟨hh, o, rfl, l1, l2, n1, n2, ifD (fun hx => no fun hp => hp.1 hx) (fun hx => ⟨hh, o, rfl, rfl, show _ < _ by omega, show _ < _ by omega, ifD (fun hw => no fun hp => ?_) (fun hw => yes ⟨hx, fun c hc => ?_⟩)⟩)⟩
 ·obtain ⟨c, hc, hn⟩ := hw
  exact hn (hp.2 c hc)
 ·exact Decidable.byContradiction fun hn => hw ⟨c, hc, hn⟩
theorem ok_apart : EntOk Tryz.prog ⟨123, c_apart⟩ := by
 rintro args Post ⟨p, q, rfl, p0, q0, l1, l2, n1, n2, h⟩
 have yes : apartC p q → Post (.bool true) := fun hp => by rwa [decide_eq_true hp] at h
 have no : ¬ apartC p q → Post (.bool false) := fun hp => by rwa [decide_eq_false hp] at h
 refine pure_P (tabCall_ok (by
  intro e he
  simp only [List.mem_cons, List.not_mem_nil, or_false] at he
  rcases he with rfl | rfl
  ·exact ok_edges
  ·exact ok_pwhere) noCall_ok) mixed (by kernel_rfl) (by kernel_rfl) _ (e_apart p.length q.length (encL p) (encL q) _ _) ?_
 obtain ⟨c0, c1⟩ := cell_cyc0 p0
 obtain ⟨d0, d1⟩ := cell_cyc0 q0
 rw [cyc_lt p0] at c0 c1
 rw [cyc_lt q0] at d0 d1
 simp only [true_and, and_true, c0, c1, d0, d1, toI_int]
 refine ⟨p, q, rfl, l1, l2, n1, n2, ifD (fun hx => no fun hp => hp.1 hx) (fun hx => ⟨⟨by decide, by omega⟩, p, cor q 0, rfl, show _ < _ by omega, ifD (fun h1 => ⟨⟨by decide, by omega⟩, q, cor p 0, rfl, show _ < _ by omega, ifD (fun h2 => yes ⟨hx, h1, h2⟩) (fun h2 => no fun hp => h2 hp.2.2)⟩) (fun h1 => no fun hp => h1 hp.2.1)⟩)⟩
end Go.Proofs.YtngginofamlkkaaGreatDoor
namespace Go.Proofs.YtngginofamlkkaaGreatDoor.PlaneG
theorem gsum_app (l m : List (Rat × Int)) (x : Rat) : gsum (l ++ m) x = gsum l x + gsum m x := by
 unfold gsum; rw [List.map_append, List.sum_append]
theorem tsum_app (l m : List (Rat × Int)) : tsum (l ++ m) = tsum l + tsum m := by
 unfold tsum; rw [List.map_append, List.sum_append]
theorem dsum_app (l m : List (Rat × Int)) : dsum (l ++ m) = dsum l + dsum m := by
 unfold dsum; rw [List.map_append, List.sum_append]
theorem min_mem : ∀ (l : List (Rat × Int)), l ≠ [] → ∃ e ∈ l, ∀ f ∈ l, e.1 ≤ f.1
 | [], h => absurd rfl h
 | [a], _ => ⟨a, by simp, fun f hf => by simp at hf; subst hf; exact Rat.le_refl⟩
 | a :: b :: l, _ => by
  obtain ⟨e, he, h⟩ := min_mem (b :: l) (by simp)
  by_cases hc : a.1 < e.1
  ·refine ⟨a, by simp, fun f hf => ?_⟩
   rcases List.mem_cons.1 hf with rfl | hf
   ·exact Rat.le_refl
   ·have := h f hf; grind
  ·refine ⟨e, List.mem_cons_of_mem _ he, fun f hf => ?_⟩
   rcases List.mem_cons.1 hf with rfl | hf
   ·grind
   ·exact h f hf
theorem gsum_filter (l : List (Rat × Int)) (x : Rat) : gsum l x = tsum (l.filter fun e => decide (x < e.1)) := by
 unfold gsum tsum
 induction l with
 | nil => rfl
 | cons a l ih =>
  rw [List.map_cons, List.sum_cons, ih, List.filter_cons]
  by_cases h : x < a.1
  ·rw [if_pos h, if_pos (by simpa using h), List.map_cons, List.sum_cons]
  ·rw [if_neg h, if_neg (by simpa using h), Int.zero_add]
theorem gsum_split {l : List (Rat × Int)} {x : Rat} {e : Rat × Int} (nd : (l.map (·.1)).Nodup) (he : e ∈ l) (hx : x < e.1) (hmin : ∀ f ∈ l, x < f.1 → e.1 ≤ f.1) : gsum l x = gsum l e.1 + e.2 := by
 unfold gsum
 induction l with
 | nil => simp at he
 | cons a l ih =>
  rw [List.map_cons, List.nodup_cons] at nd
  rw [List.map_cons, List.sum_cons, List.map_cons, List.sum_cons]
  rcases List.mem_cons.1 he with rfl | he'
  ·have hs : (l.map fun f => if x < f.1 then f.2 else 0) = l.map fun f => if e.1 < f.1 then f.2 else 0 := by
    apply List.map_congr_left
    intro f hf
    have hne : f.1 ≠ e.1 := fun h => nd.1 (List.mem_map.2 ⟨f, hf, h⟩)
    by_cases h1 : x < f.1
    ·have := hmin f (List.mem_cons_of_mem _ hf) h1
     rw [if_pos h1, if_pos (by grind)]
    ·rw [if_neg h1, if_neg (by grind)]
   rw [hs, if_pos hx, if_neg (by grind)]
   omega
  ·have := ih nd.2 he' (fun f hf => hmin f (List.mem_cons_of_mem _ hf))
   have hne : a.1 ≠ e.1 := fun h => nd.1 (List.mem_map.2 ⟨e, he', h.symm⟩)
   have ha : (if x < a.1 then a.2 else 0) = if e.1 < a.1 then a.2 else 0 := by
    by_cases h1 : x < a.1
    ·have := hmin a (by simp) h1
     rw [if_pos h1, if_pos (by grind)]
    ·rw [if_neg h1, if_neg (by grind)]
   rw [this, ha]
   omega
theorem Alt.g01 {l : List (Rat × Int)} (a : Alt l) (x : Rat) : gsum l x = 0 ∨ gsum l x = 1 := by
 by_cases h : l.filter (fun e => decide (x < e.1)) = []
 ·left
  rw [gsum_filter, h]
  rfl
 ·obtain ⟨e, he, hm⟩ := min_mem _ h
  rw [List.mem_filter] at he
  have hx : x < e.1 := by simpa using he.2
  have := gsum_split a.nd he.1 hx fun f hf hxf => hm f (List.mem_filter.2 ⟨hf, by simpa using hxf⟩)
  rw [this]
  rcases a.alt e he.1 with ⟨h1, h2⟩ | ⟨h1, h2⟩ <;> omega
theorem Contour.w01 {n : Nat} {P : Nat → Q2} (c : Contour n P) {p : Q2} (gen : ∀ j, (P j).h ≠ p.h) : ((∀ s, val n P s = 0) → wind n P p = 0 ∨ wind n P p = 1) ∧ ((∀ s, val n P s = -1) → wind n P p = 0 ∨ wind n P p = -1) := by
 have e := wind_line c p.x p.h
 rw [← cl_gsum] at e
 have ep : (⟨p.x, p.h⟩ : Q2) = p := rfl
 rw [ep] at e
 constructor
 ·intro hv
  rw [e]
  exact (cl_alt c hv gen).g01 p.x
 ·intro hv
  have := (cl_alt' c hv gen).g01 p.x
  rw [flip_gsum] at this
  omega
theorem rsum_nn {f : Nat → Rat} (h : ∀ k, 0 ≤ f k) : ∀ K, 0 ≤ rsum K f
 | 0 => Rat.le_refl
 | K + 1 => by
  have i := rsum_nn h K
  have := h K
  show 0 ≤ rsum K f + f K
  grind
theorem Contour.sign {n : Nat} {P : Nat → Q2} (c : Contour n P) {H : Nat → Int} (hH : ∀ j, (P j).h = H j) {lo : Int} {K : Nat} (h1 : ∀ j, lo ≤ H j) (h2 : ∀ j, H j ≤ lo + K) : ((∀ s, val n P s = 0) → 0 ≤ area2 n P) ∧ ((∀ s, val n P s = -1) → area2 n P ≤ 0) := by
 have gen : ∀ (z : Int) j, (P j).h ≠ lv z := fun z j e => by
  rw [hH] at e
  rcases Int.lt_or_le z (H j) with h | h
  ·have := lv_below.2 h; grind
  ·have := lv_above.2 h; grind
 rw [area_levels c hH h1 h2]
 constructor
 ·intro hv
  exact rsum_nn (fun k => by
   have := (dsum_pos _ _ (Nat.le_refl _) (cl_alt c hv (gen (lo + k))) (cl_total c (gen (lo + k)))).1
   grind) K
 ·intro hv
  have := rsum_nn (f := fun k => -(2 * dsum (cl P (lv (lo + k)) n))) (fun k => by
   have := (dsum_pos _ _ (Nat.le_refl _) (cl_alt' c hv (gen (lo + k))) (by rw [flip_tsum, cl_total c (gen _)]; rfl)).1
   rw [flip_dsum] at this
   grind) K
  rw [rsum_neg] at this
  grind
theorem wind_off {n : Nat} {P : Nat → Q2} (c : Contour n P) {p x : Q2} (h : p.h < x.h) (gp : ∀ j, p.h ≠ (P j).h) (gx : ∀ j, x.h ≠ (P j).h) (ha : ∀ j, Apart p x (P j) (P (j + 1))) : wind n P p = wind n P x := by
 have n3 := c.n3
 have hw := wind_dlt c p x 0
 have z : isum n (fun j => dlt p x (P (j + 0), P (j + 0 + 1))) = 0 := by
  rw [isum_congr (g := fun _ => 0) fun j _ => dlt_apart h (c.lev _ _ (by omega) (by omega)) (gp _) (gp _) (gx _) (gx _) (ha _), isum_zero]
 omega
structure Family (m : Nat) (N : Nat → Nat) (P : Nat → Nat → Q2) : Prop where
 con : ∀ i, i < m → Contour (N i) (P i)
 lev : ∀ i k, i < m → k < m → i ≠ k → ∀ s t, (P i s).h ≠ (P k t).h
 apart : ∀ i k, i < m → k < m → i ≠ k → ∀ s t, Apart (P i s) (P i (s + 1)) (P k t) (P k (t + 1))
 bal : ∀ i, i < m → ∀ s, val (N i) (P i) s + isum m (fun k => if k = i then 0 else wind (N k) (P k) (P i s)) = 0
def fam (N : Nat → Nat) (P : Nat → Nat → Q2) (y : Rat) : Nat → List (Rat × Int)
 | 0 => []
 | m + 1 => cl (P m) y (N m) ++ fam N P y m
theorem fam_mem {N : Nat → Nat} {P : Nat → Nat → Q2} {y : Rat} {e : Rat × Int} : ∀ {m}, e ∈ fam N P y m → ∃ i, i < m ∧ e ∈ cl (P i) y (N i)
 | 0, h => by simp [fam] at h
 | m + 1, h => by
  rcases List.mem_append.1 h with h | h
  ·exact ⟨m, by omega, h⟩
  ·obtain ⟨i, hi, hm⟩ := fam_mem h
   exact ⟨i, by omega, hm⟩
theorem fam_gsum (N : Nat → Nat) (P : Nat → Nat → Q2) (y x : Rat) : ∀ m, gsum (fam N P y m) x = isum m fun i => gsum (cl (P i) y (N i)) x
 | 0 => rfl
 | m + 1 => by
  show gsum (_ ++ _) x = isum m _ + _
  rw [gsum_app, fam_gsum N P y x m, Int.add_comm]
theorem fam_tsum (N : Nat → Nat) (P : Nat → Nat → Q2) (y : Rat) : ∀ m, tsum (fam N P y m) = isum m fun i => tsum (cl (P i) y (N i))
 | 0 => rfl
 | m + 1 => by
  show tsum (_ ++ _) = isum m _ + _
  rw [tsum_app, fam_tsum N P y m, Int.add_comm]
theorem fam_dsum (N : Nat → Nat) (P : Nat → Nat → Q2) (y : Rat) : ∀ m, dsum (fam N P y m) = rsum m fun i => dsum (cl (P i) y (N i))
 | 0 => rfl
 | m + 1 => by
  show dsum (_ ++ _) = rsum m _ + _
  rw [dsum_app, fam_dsum N P y m, Rat.add_comm]
theorem isum_out (f : Nat → Int) {i : Nat} : ∀ {m}, i < m → isum m f = f i + isum m (fun k => if k = i then 0 else f k)
 | 0, h => by omega
 | m + 1, h => by
  show isum m f + f m = f i + (isum m _ + if m = i then 0 else f m)
  by_cases e : m = i
  ·subst e
   rw [if_pos rfl, isum_congr (n := m) (f := fun k => if k = m then 0 else f k) (g := f) fun j hj => by rw [if_neg (by omega)]]
   omega
  ·rw [if_neg e, isum_out f (show i < m by omega)]
   omega
theorem Family.nodup {m : Nat} {N : Nat → Nat} {P : Nat → Nat → Q2} (F : Family m N P) {y : Rat} (gen : ∀ i j, i < m → (P i j).h ≠ y) : ∀ q, q ≤ m → ((fam N P y q).map (·.1)).Nodup
 | 0, _ => List.nodup_nil
 | q + 1, hq => by
  show ((cl (P q) y (N q) ++ fam N P y q).map (·.1)).Nodup
  rw [List.map_append, List.nodup_append]
  refine ⟨cl_nodup (F.con q (by omega)) (fun j => gen q j (by omega)) _ (Nat.le_refl _), F.nodup gen q (by omega), fun a ha b hb e => ?_⟩
  subst e
  obtain ⟨e1, h1, rfl⟩ := List.mem_map.1 ha
  obtain ⟨e2, h2, h3⟩ := List.mem_map.1 hb
  obtain ⟨i, hi, h2⟩ := fam_mem h2
  obtain ⟨s, _, ds, rfl⟩ := cl_mem h1
  obtain ⟨t, _, dt, rfl⟩ := cl_mem h2
  exact X_far ds dt (F.apart q i (by omega) (by omega) (by omega) s t) h3.symm
theorem Family.alt {m : Nat} {N : Nat → Nat} {P : Nat → Nat → Q2} (F : Family m N P) {y : Rat} (gen : ∀ i j, i < m → (P i j).h ≠ y) : Alt (fam N P y m) := by
 refine ⟨F.nodup gen m (Nat.le_refl _), fun e he => ?_⟩
 obtain ⟨i, hi, he⟩ := fam_mem he
 obtain ⟨j, hj, hd, rfl⟩ := cl_mem he
 have c := F.con i hi
 have n3 := c.n3
 simp only
 rw [fam_gsum, isum_congr (fun k hk => by rw [cl_gsum, ← wind_line (F.con k hk)]), isum_out _ hi]
 have p0 : P i (j + N i - 1 + 1) = P i j := by rw [show j + N i - 1 + 1 = j + N i by omega, c.per]
 have p1 : P i (j + N i - 1 + 2) = P i (j + 1) := by rw [show j + N i - 1 + 2 = j + 1 + N i by omega, c.per]
 rcases dir_cases hd with ⟨g1, g2, g3⟩ | ⟨g1, g2, g3⟩
 ·left
  refine ⟨g3, ?_⟩
  have hu : (P i j).h < (P i (j + 1)).h := by grind
  have hw := wind_on_up c (s := j + N i - 1) (y := y) (by rw [p0, p1]; exact hu) (by rw [p0]; exact g1) (by rw [p1]; exact g2) (fun k => gen i k hi)
  rw [p0, p1, val_const c] at hw
  have hb := F.bal i hi j
  rw [val_const c] at hb
  have ho : isum m (fun k => if k = i then 0 else wind (N k) (P k) ⟨X (P i j) (P i (j + 1)) y, y⟩) = isum m (fun k => if k = i then 0 else wind (N k) (P k) (P i j)) := isum_congr fun k hk => by
   by_cases e : k = i
   ·rw [if_pos e, if_pos e]
   ·rw [if_neg e, if_neg e]
    exact (wind_off (F.con k hk) (x := at_ (P i j) (P i (j + 1)) y) g1 (fun t => F.lev i k hi hk (fun e' => e e'.symm) j t) (fun t => fun e' => gen k t hk e'.symm) fun t => apart_part hu g1 g2 (F.apart i k hi hk (fun e' => e e'.symm) j t)).symm
  rw [ho]
  unfold at_ at hw
  omega
 ·right
  refine ⟨g3, ?_⟩
  have hu : (P i (j + 1)).h < (P i j).h := by grind
  have hw := wind_on_down c (s := j + N i - 1) (y := y) (by rw [p0, p1]; exact hu) (by rw [p1]; exact g1) (by rw [p0]; exact g2) (fun k => gen i k hi)
  rw [p0, p1, val_const c] at hw
  have hb := F.bal i hi (j + 1)
  rw [val_const c] at hb
  have hx : X (P i j) (P i (j + 1)) y = X (P i (j + 1)) (P i j) y := X_rev (by grind) y
  rw [hx]
  have ho : isum m (fun k => if k = i then 0 else wind (N k) (P k) ⟨X (P i (j + 1)) (P i j) y, y⟩) = isum m (fun k => if k = i then 0 else wind (N k) (P k) (P i (j + 1))) := isum_congr fun k hk => by
   by_cases e : k = i
   ·rw [if_pos e, if_pos e]
   ·rw [if_neg e, if_neg e]
    exact (wind_off (F.con k hk) (x := at_ (P i (j + 1)) (P i j) y) g1 (fun t => F.lev i k hi hk (fun e' => e e'.symm) (j + 1) t) (fun t => fun e' => gen k t hk e'.symm) fun t => apart_part hu g1 g2 (apart_swap (F.apart i k hi hk (fun e' => e e'.symm) j t))).symm
  rw [ho]
  unfold at_ at hw
  omega
theorem Family.total {m : Nat} {N : Nat → Nat} {P : Nat → Nat → Q2} (F : Family m N P) {y : Rat} (gen : ∀ i j, i < m → (P i j).h ≠ y) : tsum (fam N P y m) = 0 := by
 rw [fam_tsum, isum_congr (g := fun _ => 0) fun i hi => cl_total (F.con i hi) fun j => gen i j hi, isum_zero]
theorem Family.area {m : Nat} {N : Nat → Nat} {P : Nat → Nat → Q2} (F : Family m N P) (hm : 0 < m) {H : Nat → Nat → Int} (hH : ∀ i j, (P i j).h = H i j) {lo : Int} {K : Nat} (h1 : ∀ i j, lo ≤ H i j) (h2 : ∀ i j, H i j ≤ lo + K) : 0 < rsum m fun i => area2 (N i) (P i) := by
 have gen : ∀ (z : Int) i j, i < m → (P i j).h ≠ lv z := fun z i j _ e => by
  rw [hH] at e
  rcases Int.lt_or_le z (H i j) with h | h
  ·have := lv_below.2 h; grind
  ·have := lv_above.2 h; grind
 have c := F.con 0 hm
 have n3 := c.n3
 have hne : H 0 0 ≠ H 0 1 := fun e => c.lev 0 1 (by omega) (by omega) (by rw [hH, hH, e])
 obtain ⟨k, hk, hd⟩ : ∃ k : Nat, k < K ∧ dir (P 0 0) (P 0 1) (lv (lo + k)) ≠ 0 := by
  have a0 := h1 0 0; have a1 := h1 0 1; have b0 := h2 0 0; have b1 := h2 0 1
  rcases Int.lt_or_lt_of_ne hne with h | h
  ·refine ⟨(H 0 0 - lo).toNat, by omega, ?_⟩
   unfold dir
   rw [hH, hH, if_pos (by rw [lv_above, lv_below]; omega)]
   decide
  ·refine ⟨(H 0 1 - lo).toNat, by omega, ?_⟩
   unfold dir
   rw [hH, hH, if_neg (by rw [lv_above, lv_below]; omega), if_pos (by rw [lv_above, lv_below]; omega)]
   decide
 have hc := cl_some (n := N 0) (j := 0) (by omega) hd
 have hf : fam N P (lv (lo + k)) m ≠ [] := by
  intro e
  have key : ∀ q, 0 < q → fam N P (lv (lo + k)) q = [] → cl (P 0) (lv (lo + k)) (N 0) = [] := fun q => by
   induction q with
   | zero => intro h; omega
   | succ q ih =>
    intro _ he
    have he : cl (P q) (lv (lo + k)) (N q) ++ fam N P (lv (lo + k)) q = [] := he
    rw [List.append_eq_nil_iff] at he
    rcases Nat.eq_zero_or_pos q with hq | hq
    ·subst hq; exact he.1
    ·exact ih hq he.2
  exact hc (key m hm e)
 have e : rsum m (fun i => area2 (N i) (P i)) = rsum K fun k => 2 * dsum (fam N P (lv (lo + k)) m) := by
  rw [rsum_congr fun i hi => area_levels (F.con i hi) (hH i) (h1 i) (h2 i), rsum_swap]
  refine rsum_congr fun k _ => ?_
  rw [fam_dsum]
  have := rsum_two m (fun _ => 1) fun i => dsum (cl (P i) (lv (lo + k)) (N i))
  simp only [Rat.one_mul] at this
  exact this
 rw [e]
 refine rsum_pos (i := k) (fun j _ => ?_) hk ?_
 ·have := (dsum_pos _ _ (Nat.le_refl _) (F.alt (gen (lo + j))) (F.total (gen (lo + j)))).1
  grind
 ·have := (dsum_pos _ _ (Nat.le_refl _) (F.alt (gen (lo + k))) (F.total (gen (lo + k)))).2 hf
  grind
end Go.Proofs.YtngginofamlkkaaGreatDoor.PlaneG

namespace Go.Proofs.YtngginofamlkkaaGreatDoor.PlaneG
theorem lvl_cmp {M N : Int} (hM : 2 * N < M) {a b : I2} (ha : Bd N a) (hb : Bd N b) : lvl M a < lvl M b ↔ a.y < b.y ∨ (a.y = b.y ∧ b.x < a.x) := by
 unfold Bd at *
 unfold lvl
 have e : M * b.y - M * a.y = M * (b.y - a.y) := by rw [Int.mul_sub]
 have hM0 : 0 ≤ M := by omega
 constructor
 ·intro h
  rcases Int.lt_or_le a.y b.y with h1 | h1
  ·exact .inl h1
  ·right
   rcases Int.lt_or_eq_of_le h1 with h2 | h2
   ·have := Int.mul_le_mul_of_nonneg_left (show b.y - a.y ≤ -1 by omega) hM0
    omega
   ·rw [h2] at h
    exact ⟨h2.symm, by omega⟩
 ·rintro (h | ⟨h1, h2⟩)
  ·have := Int.mul_le_mul_of_nonneg_left (show 1 ≤ b.y - a.y by omega) hM0
   omega
  ·rw [h1]; omega
theorem cri_left {a b q : I2} (h : a.y = q.y) : cri a b q = (b.y - a.y) * (a.x - q.x) := by unfold cri; rw [← h]; grind
theorem cri_right {a b q : I2} (h : b.y = q.y) : cri a b q = (b.y - a.y) * (b.x - q.x) := by unfold cri; rw [← h]; grind
theorem sgn_mul {m n : Int} : (0 < m → (0 < n ↔ 0 < m * n) ∧ (n < 0 ↔ m * n < 0)) ∧ (m < 0 → (0 < n ↔ m * n < 0) ∧ (n < 0 ↔ 0 < m * n)) := by
 constructor
 ·intro hm
  rcases Int.lt_or_le n 0 with h | h
  ·have := Int.mul_neg_of_pos_of_neg hm h; omega
  ·rcases Int.lt_or_eq_of_le h with h | h
   ·have := Int.mul_pos hm h; omega
   ·subst h; rw [Int.mul_zero]; omega
 ·intro hm
  rcases Int.lt_or_le n 0 with h | h
  ·have := Int.mul_pos_of_neg_of_neg hm h; omega
  ·rcases Int.lt_or_eq_of_le h with h | h
   ·have := Int.mul_neg_of_neg_of_pos hm h; omega
   ·subst h; rw [Int.mul_zero]; omega
theorem wt_shp {M N : Int} (hM : 2 * N < M) {a b q : I2} (ha : Bd N a) (hb : Bd N b) (hq : Bd N q) (hn : ¬ onI a b q) : wt (shp M a, shp M b) (shp M q) = wtI a b q := by
 have hM0 : 0 < M := by unfold Bd at ha; omega
 unfold wt wtI
 simp only [crs_pos hM0, crs_neg hM0, lvl_lt, lvl_cmp hM ha hq, lvl_cmp hM hq hb, lvl_cmp hM hb hq, lvl_cmp hM hq ha]
 have hl := @cri_left a b q
 have hr := @cri_right a b q
 obtain ⟨s1, s2⟩ := @sgn_mul (b.y - a.y) (a.x - q.x)
 obtain ⟨s3, s4⟩ := @sgn_mul (b.y - a.y) (b.x - q.x)
 unfold onI at hn
 by_cases h1 : a.y = q.y
 ·rw [← hl h1] at s1 s2
  by_cases h2 : b.y = q.y
  ·have hc : cri a b q = 0 := by rw [hl h1, h1, h2, Int.sub_self, Int.zero_mul]
   rw [if_neg (by omega), if_neg (by omega), if_neg (by omega), if_neg (by omega)]
  ·rcases Int.lt_or_gt_of_ne h2 with h3 | h3
   ·have s2 := s2 (by omega)
    clear s1 s3 s4
    by_cases hx : q.x < a.x
    ·rw [if_neg (by omega), if_neg (by omega), if_neg (by omega), if_neg (by omega)]
    ·rw [if_neg (by omega), if_neg (by omega), if_neg (by omega), if_neg (by omega)]
   ·have s1 := s1 (by omega)
    clear s2 s3 s4
    by_cases hx : q.x < a.x
    ·rw [if_pos (by omega), if_pos (by omega)]
    ·rw [if_neg (by omega), if_neg (by omega), if_neg (by omega), if_neg (by omega)]
 ·by_cases h2 : b.y = q.y
  ·rw [← hr h2] at s3 s4
   rcases Int.lt_or_gt_of_ne h1 with h3 | h3
   ·have s3 := s3 (by omega)
    clear s1 s2 s4
    by_cases hx : q.x < b.x
    ·rw [if_neg (by omega), if_neg (by omega), if_neg (by omega), if_neg (by omega)]
    ·rw [if_neg (by omega), if_neg (by omega), if_neg (by omega), if_neg (by omega)]
   ·have s4 := s4 (by omega)
    clear s1 s2 s3
    by_cases hx : q.x < b.x
    ·rw [if_neg (by omega), if_pos (by omega), if_neg (by omega), if_pos (by omega)]
    ·rw [if_neg (by omega), if_neg (by omega), if_neg (by omega), if_neg (by omega)]
  ·clear s1 s2 s3 s4 hl hr
   by_cases c1 : a.y ≤ q.y ∧ q.y < b.y ∧ 0 < cri a b q
   ·rw [if_pos (by omega), if_pos (by omega)]
   ·rw [if_neg (by omega), if_neg c1]
    by_cases c2 : b.y ≤ q.y ∧ q.y < a.y ∧ cri a b q < 0
    ·rw [if_pos (by omega), if_pos c2]
    ·rw [if_neg (by omega), if_neg c2]
theorem wind_shp {M N : Int} (hM : 2 * N < M) {n : Nat} {p : Nat → I2} (hb : ∀ i, Bd N (p i)) {q : I2} (hq : Bd N q) (hn : ∀ i, ¬ onI (p i) (p (i + 1)) q) : wind n (fun i => shp M (p i)) (shp M q) = windI n p q :=
 isum_congr fun j _ => wt_shp hM (hb _) (hb _) hq (hn _)
def Bx (N : Int) (a : I2) : Prop := -N ≤ a.x ∧ a.x ≤ N ∧ -N ≤ a.y ∧ a.y ≤ N
theorem Simp.way {n : Nat} {p : Nat → I2} (s : Simp n p) {N : Int} (hb : ∀ i, Bx N (p i)) : (0 < a2 n p → ∀ t, val n (fun i => shp (2 * N + 1) (p i)) t = 0) ∧ (a2 n p < 0 → ∀ t, val n (fun i => shp (2 * N + 1) (p i)) t = -1) := by
 have hN : 0 ≤ N := by have := hb 0; unfold Bx at this; omega
 have hl : ∀ i, -(2 * N + 1) * N - N ≤ lvl (2 * N + 1) (p i) ∧ lvl (2 * N + 1) (p i) ≤ (2 * N + 1) * N + N := fun i => by
  obtain ⟨h1, h2, h3, h4⟩ := hb i
  have a1 := Int.mul_le_mul_of_nonneg_left h3 (show 0 ≤ 2 * N + 1 by omega)
  have a2 := Int.mul_le_mul_of_nonneg_left h4 (show 0 ≤ 2 * N + 1 by omega)
  have a3 : (2 * N + 1) * -N = -(2 * N + 1) * N := by grind
  unfold lvl
  omega
 have c := s.contour (M := 2 * N + 1) (N := N) (by omega) fun i => ⟨(hb i).1, (hb i).2.1⟩
 have h := c.sign (H := fun j => lvl (2 * N + 1) (p j)) (fun _ => rfl) (lo := -(2 * N + 1) * N - N) (K := (2 * ((2 * N + 1) * N + N)).toNat) (fun j => (hl j).1) (fun j => by
  have := hl j
  have e : -(2 * N + 1) * N = -((2 * N + 1) * N) := Int.neg_mul _ _
  have nn := Int.mul_nonneg (show 0 ≤ 2 * N + 1 by omega) hN
  generalize (2 * N + 1) * N = z at *
  omega)
 rw [area_a2 s.per] at h
 obtain ⟨k1, k2⟩ := h
 constructor
 ·intro ha
  rcases val_01 c with hv | hv
  ·exact hv
  ·exfalso
   have := k2 hv
   have h2 : ((2 * N + 1) * a2 n p : Int) ≤ 0 := by
    have h3 : (((2 * N + 1) * a2 n p : Int) : Rat) ≤ ((0 : Int) : Rat) := this
    exact Rat.intCast_le_intCast.1 h3
   have := Int.mul_pos (show 0 < 2 * N + 1 by omega) ha
   omega
 ·intro ha
  rcases val_01 c with hv | hv
  ·exfalso
   have := k1 hv
   have h2 : 0 ≤ ((2 * N + 1) * a2 n p : Int) := by
    have h3 : ((0 : Int) : Rat) ≤ (((2 * N + 1) * a2 n p : Int) : Rat) := this
    exact Rat.intCast_le_intCast.1 h3
   have := Int.mul_neg_of_pos_of_neg (show 0 < 2 * N + 1 by omega) ha
   omega
  ·exact hv
structure Holes (N : Int) (m : Nat) (n : Nat → Nat) (p : Nat → Nat → I2) : Prop where
 m0 : 0 < m
 simp : ∀ i, i < m → Simp (n i) (p i)
 bd : ∀ i s, Bx N (p i s)
 off : ∀ i k, i < m → k < m → i ≠ k → ∀ s t, ¬ meetI (p i s) (p i (s + 1)) (p k t) (p k (t + 1))
 out : 0 < a2 (n 0) (p 0)
 hole : ∀ i, 0 < i → i < m → a2 (n i) (p i) < 0
 inn : ∀ i, 0 < i → i < m → ∀ s, oddI (n 0) (p 0) (p i s) = true
 apt : ∀ i k, 0 < i → i < m → 0 < k → k < m → i ≠ k → ∀ s, oddI (n k) (p k) (p i s) = false
theorem Holes.family {N : Int} {m : Nat} {n : Nat → Nat} {p : Nat → Nat → I2} (h : Holes N m n p) : Family m n fun i s => shp (2 * N + 1) (p i s) := by
 have hbd : ∀ i s, Bd N (p i s) := fun i s => ⟨(h.bd i s).1, (h.bd i s).2.1⟩
 have hM : 2 * N < 2 * N + 1 := by omega
 have con : ∀ i, i < m → Contour (n i) (fun s => shp (2 * N + 1) (p i s)) := fun i hi => (h.simp i hi).contour hM (hbd i)
 have noton : ∀ i k, i < m → k < m → i ≠ k → ∀ s t, ¬ onI (p k t) (p k (t + 1)) (p i s) := fun i k hi hk hne s t ho => h.off i k hi hk hne s t (.inr (.inr (.inl ho)))
 have lev : ∀ i k, i < m → k < m → i ≠ k → ∀ s t, (shp (2 * N + 1) (p i s)).h ≠ (shp (2 * N + 1) (p k t)).h := fun i k hi hk hne s t e => by
  refine lvl_ne hM (hbd i s) (hbd k t) (fun e' => noton i k hi hk hne s t ?_) (Rat.intCast_inj.1 e)
  rw [e']
  exact on_self _ _
 have apart : ∀ i k, i < m → k < m → i ≠ k → ∀ s t, Apart (shp (2 * N + 1) (p i s)) (shp (2 * N + 1) (p i (s + 1))) (shp (2 * N + 1) (p k t)) (shp (2 * N + 1) (p k (t + 1))) := fun i k hi hk hne s t =>
  apart_of hM (hbd _ _) (hbd _ _) (hbd _ _) (hbd _ _) ((h.simp i hi).ne s) ((h.simp k hk).ne t) (h.off i k hi hk hne s t)
 have v0 := ((h.simp 0 h.m0).way (h.bd 0)).1 h.out
 have vh : ∀ i, 0 < i → i < m → ∀ t, val (n i) (fun s => shp (2 * N + 1) (p i s)) t = -1 := fun i h0 hi => ((h.simp i hi).way (h.bd i)).2 (h.hole i h0 hi)
 have w1 : ∀ i, 0 < i → i < m → ∀ s, wind (n 0) (fun s => shp (2 * N + 1) (p 0 s)) (shp (2 * N + 1) (p i s)) = 1 := fun i h0 hi s => by
  have e := wind_shp hM (n := n 0) (hbd 0) (hbd i s) (noton i 0 hi h.m0 (by omega) s)
  have c := ((con 0 h.m0).w01 (p := shp (2 * N + 1) (p i s)) (fun j => lev 0 i h.m0 hi (by omega) j s)).1 v0
  have o := (oddI_wind (p 0) (p i s) (n 0)).1 (h.inn i h0 hi s)
  omega
 have w0 : ∀ i k, 0 < i → i < m → 0 < k → k < m → i ≠ k → ∀ s, wind (n k) (fun s => shp (2 * N + 1) (p k s)) (shp (2 * N + 1) (p i s)) = 0 := fun i k h0 hi k0 hk hne s => by
  have e := wind_shp hM (n := n k) (hbd k) (hbd i s) (noton i k hi hk hne s)
  have c := ((con k hk).w01 (p := shp (2 * N + 1) (p i s)) (fun j => lev k i hk hi (fun e => hne e.symm) j s)).2 (vh k k0 hk)
  have o := oddI_wind (p k) (p i s) (n k)
  rw [h.apt i k h0 hi k0 hk hne s] at o
  simp at o
  omega
 have wn : ∀ k, 0 < k → k < m → ∀ s, wind (n k) (fun s => shp (2 * N + 1) (p k s)) (shp (2 * N + 1) (p 0 s)) = 0 := fun k k0 hk => by
  have step : ∀ s, wind (n k) (fun s => shp (2 * N + 1) (p k s)) (shp (2 * N + 1) (p 0 s)) = wind (n k) (fun s => shp (2 * N + 1) (p k s)) (shp (2 * N + 1) (p 0 (s + 1))) := fun s => by
   have d : (shp (2 * N + 1) (p 0 s)).h ≠ (shp (2 * N + 1) (p 0 (s + 1))).h := (con 0 h.m0).lev s (s + 1) (by omega) (by have := (con 0 h.m0).n3; omega)
   by_cases hu : (shp (2 * N + 1) (p 0 s)).h < (shp (2 * N + 1) (p 0 (s + 1))).h
   ·exact wind_off (con k hk) hu (fun j => lev 0 k h.m0 hk (by omega) s j) (fun j => lev 0 k h.m0 hk (by omega) (s + 1) j) fun j => apart 0 k h.m0 hk (by omega) s j
   ·exact (wind_off (con k hk) (p := shp (2 * N + 1) (p 0 (s + 1))) (by grind) (fun j => lev 0 k h.m0 hk (by omega) (s + 1) j) (fun j => lev 0 k h.m0 hk (by omega) s j) fun j => apart_swap (apart 0 k h.m0 hk (by omega) s j)).symm
  have all : ∀ s, wind (n k) (fun s => shp (2 * N + 1) (p k s)) (shp (2 * N + 1) (p 0 s)) = wind (n k) (fun s => shp (2 * N + 1) (p k s)) (shp (2 * N + 1) (p 0 0)) := fun s => by
   induction s with
   | zero => rfl
   | succ s ih => rw [← step s, ih]
  obtain ⟨s0, hs0⟩ := top_exists (con 0 h.m0)
  obtain ⟨t0, ht0⟩ := top_exists (con k hk)
  have hz : wind (n k) (fun s => shp (2 * N + 1) (p k s)) (shp (2 * N + 1) (p 0 (s0 + 1))) = 0 := by
   by_cases hh : (shp (2 * N + 1) (p k (t0 + 1))).h ≤ (shp (2 * N + 1) (p 0 (s0 + 1))).h
   ·exact wind_top fun j => by
     have h2 := ht0 j
     exact Rat.le_trans h2 hh
   ·exfalso
    have h3 := w1 k k0 hk (t0 + 1)
    rw [wind_top fun j => by
     have h2 := hs0 j
     have h2 : (shp (2 * N + 1) (p 0 j)).h ≤ (shp (2 * N + 1) (p 0 (s0 + 1))).h := h2
     show (shp (2 * N + 1) (p 0 j)).h ≤ (shp (2 * N + 1) (p k (t0 + 1))).h
     grind] at h3
    omega
  intro s
  rw [all s, ← all (s0 + 1), hz]
 refine ⟨con, lev, apart, fun i hi s => ?_⟩
 by_cases h0 : i = 0
 ·subst h0
  rw [v0 s, isum_congr (g := fun _ => 0) fun k hk => ?_, isum_zero]
  ·rfl
  ·by_cases hk0 : k = 0
   ·rw [if_pos hk0]
   ·rw [if_neg hk0]
    exact wn k (by omega) hk s
 ·rw [vh i (by omega) hi s, isum_out _ h.m0, isum_congr (n := m) (f := fun k => if k = 0 then 0 else if k = i then 0 else wind (n k) (fun s => shp (2 * N + 1) (p k s)) (shp (2 * N + 1) (p i s))) (g := fun _ => 0) fun k hk => ?_, isum_zero, if_neg (by omega), w1 i (by omega) hi s]
  ·rfl
  ·by_cases hk0 : k = 0
   ·rw [if_pos hk0]
   ·rw [if_neg hk0]
    by_cases hki : k = i
    ·rw [if_pos hki]
    ·rw [if_neg hki]
     exact w0 i k (by omega) hi (by omega) hk (fun e => hki e.symm) s
theorem Holes.area {N : Int} {m : Nat} {n : Nat → Nat} {p : Nat → Nat → I2} (h : Holes N m n p) : 0 < isum m fun i => a2 (n i) (p i) := by
 have hN : 0 ≤ N := by have := h.bd 0 0; unfold Bx at this; omega
 have hl : ∀ i s, -(2 * N + 1) * N - N ≤ lvl (2 * N + 1) (p i s) ∧ lvl (2 * N + 1) (p i s) ≤ (2 * N + 1) * N + N := fun i s => by
  obtain ⟨h1, h2, h3, h4⟩ := h.bd i s
  have a1 := Int.mul_le_mul_of_nonneg_left h3 (show 0 ≤ 2 * N + 1 by omega)
  have a2 := Int.mul_le_mul_of_nonneg_left h4 (show 0 ≤ 2 * N + 1 by omega)
  have a3 : (2 * N + 1) * -N = -(2 * N + 1) * N := by grind
  unfold lvl
  omega
 have hp := h.family.area h.m0 (H := fun i s => lvl (2 * N + 1) (p i s)) (fun _ _ => rfl) (lo := -(2 * N + 1) * N - N) (K := (2 * ((2 * N + 1) * N + N)).toNat) (fun i s => (hl i s).1) (fun i s => by
  have := hl i s
  have e : -(2 * N + 1) * N = -((2 * N + 1) * N) := Int.neg_mul _ _
  have nn := Int.mul_nonneg (show 0 ≤ 2 * N + 1 by omega) hN
  generalize (2 * N + 1) * N = z at *
  omega)
 rw [rsum_congr fun i hi => area_a2 (h.simp i hi).per (2 * N + 1), rsum_cast m fun i => (2 * N + 1) * a2 (n i) (p i), isum_mul] at hp
 have h3 : ((0 : Int) : Rat) < (((2 * N + 1) * isum m (fun i => a2 (n i) (p i)) : Int) : Rat) := hp
 have h4 := Rat.intCast_lt_intCast.1 h3
 rcases Int.lt_or_le 0 (isum m fun i => a2 (n i) (p i)) with h5 | h5
 ·exact h5
 ·have := Int.mul_nonpos_of_nonneg_of_nonpos (show 0 ≤ 2 * N + 1 by omega) h5
  omega
end Go.Proofs.YtngginofamlkkaaGreatDoor.PlaneG

namespace Go.Proofs.YtngginofamlkkaaGreatDoor.PlaneG
def lvr (r : Rat) (z : Int) : Rat := (z : Rat) + r
theorem lvr_above {r : Rat} (h0 : 0 < r) (h1 : r < 1) {a z : Int} : (a : Rat) < lvr r z ↔ a ≤ z := by
 unfold lvr
 constructor
 ·intro h
  rcases Int.lt_or_le z a with h' | h'
  ·have : (z : Rat) + 1 ≤ a := by exact_mod_cast h'
   grind
  ·exact h'
 ·intro h
  have : (a : Rat) ≤ z := by exact_mod_cast h
  grind
theorem lvr_below {r : Rat} (h0 : 0 < r) (h1 : r < 1) {b z : Int} : lvr r z < (b : Rat) ↔ z < b := by
 unfold lvr
 constructor
 ·intro h
  rcases Int.lt_or_le z b with h' | h'
  ·exact h'
  ·have : (b : Rat) ≤ z := by exact_mod_cast h'
   grind
 ·intro h
  have : (z : Rat) + 1 ≤ b := by exact_mod_cast h
  grind
theorem lvr_ne {r : Rat} (h0 : 0 < r) (h1 : r < 1) (a z : Int) : (a : Rat) ≠ lvr r z := by
 intro e
 rcases Int.lt_or_le z a with h | h
 ·have := (lvr_below h0 h1 (b := a) (z := z)).2 h; grind
 ·have := (lvr_above h0 h1 (a := a) (z := z)).2 h; grind
def q3 (f : Rat → Rat) (z : Int) : Rat := 3 / 8 * f (lvr (1 / 6) z) + 1 / 4 * f (lvr (1 / 2) z) + 3 / 8 * f (lvr (5 / 6) z)
theorem r1 : (0 : Rat) < 1 / 6 ∧ (1 / 6 : Rat) < 1 := by grind
theorem r2 : (0 : Rat) < 1 / 2 ∧ (1 / 2 : Rat) < 1 := by grind
theorem r3 : (0 : Rat) < 5 / 6 ∧ (5 / 6 : Rat) < 1 := by grind
theorem q3_le {f g : Rat → Rat} {z : Int} (h : ∀ r, 0 < r → r < 1 → f (lvr r z) ≤ g (lvr r z)) : q3 f z ≤ q3 g z := by
 have h1 := h _ r1.1 r1.2
 have h2 := h _ r2.1 r2.2
 have h3 := h _ r3.1 r3.2
 unfold q3
 grind
theorem q3_mul (k : Rat) (f : Rat → Rat) (z : Int) : q3 (fun y => k * f y) z = k * q3 f z := by unfold q3; grind
theorem q3_rsum (f : Nat → Rat → Rat) (z : Int) : ∀ n, q3 (fun y => rsum n fun j => f j y) z = rsum n fun j => q3 (f j) z
 | 0 => by unfold q3; show _ = (0 : Rat); simp only [rsum]; grind
 | n + 1 => by
  have ih := q3_rsum f z n
  show q3 (fun y => rsum n (fun j => f j y) + f n y) z = rsum n _ + q3 (f n) z
  rw [← ih]
  unfold q3
  grind
theorem dir_strip {u v : Q2} {a b : Int} (hu : u.h = a) (hv : v.h = b) {r : Rat} (h0 : 0 < r) (h1 : r < 1) (z : Int) : dir u v (lvr r z) = if a ≤ z ∧ z < b then 1 else if b ≤ z ∧ z < a then -1 else 0 := by
 unfold dir
 simp only [hu, hv, lvr_above h0 h1, lvr_below h0 h1]
theorem X_lin (u v : Q2) (r : Rat) (z : Int) : X u v (lvr r z) = (u.x + (v.x - u.x) * (((z : Rat) - u.h) / (v.h - u.h))) + (v.x - u.x) / (v.h - u.h) * r := by
 unfold X lvr
 rw [Rat.div_def, Rat.div_def, Rat.div_def]
 grind
theorem q3_lin {u v : Q2} {a b : Int} (hu : u.h = a) (hv : v.h = b) (z : Int) : q3 (fun y => (dir u v y : Rat) * X u v y) z = (dir u v (lv z) : Rat) * X u v (lv z) := by
 have e : lv z = lvr (1 / 2) z := rfl
 rw [e]
 unfold q3
 simp only [dir_strip hu hv r1.1 r1.2, dir_strip hu hv r2.1 r2.2, dir_strip hu hv r3.1 r3.2, X_lin]
 generalize u.x + (v.x - u.x) * (((z : Rat) - u.h) / (v.h - u.h)) = p
 generalize (v.x - u.x) / (v.h - u.h) = q
 generalize (if a ≤ z ∧ z < b then (1 : Int) else if b ≤ z ∧ z < a then -1 else 0) = d
 generalize ((d : Int) : Rat) = d
 grind
def sqd (u v : Q2) (y : Rat) : Rat := (dir u v y : Rat) * (X u v y * X u v y)
theorem sedge_part {u v : Q2} {a b lo : Int} (hu : u.h = a) (hv : v.h = b) (hab : a < b) (hlo : lo ≤ a) (m : Nat) :
  rsum m (fun k => 3 * q3 (sqd u v) (lo + k)) = 3 * u.x * u.x * gone a b lo m + 3 * u.x * ((v.x - u.x) / (b - a)) * gone a b lo m * gone a b lo m + (v.x - u.x) / (b - a) * ((v.x - u.x) / (b - a)) * gone a b lo m * gone a b lo m * gone a b lo m := by
 induction m with
 | zero =>
  have : gone a b lo 0 = 0 := by unfold gone; rw [if_pos (by omega)]
  rw [this]
  show (0 : Rat) = _
  grind
 | succ m ih =>
  show rsum m _ + 3 * q3 (sqd u v) (lo + m) = _
  rw [ih]
  have hs : ∀ r : Rat, 0 < r → r < 1 → dir u v (lvr r (lo + m)) = if a ≤ lo + m ∧ lo + m < b then 1 else 0 := fun r h0 h1 => by
   rw [dir_strip hu hv h0 h1]
   by_cases h : a ≤ lo + m ∧ lo + m < b
   ·rw [if_pos h, if_pos h]
   ·rw [if_neg h, if_neg h, if_neg (by omega)]
  unfold q3 sqd
  simp only [hs _ r1.1 r1.2, hs _ r2.1 r2.2, hs _ r3.1 r3.2]
  by_cases h1 : lo + m + 1 ≤ a
  ·have e1 : gone a b lo m = 0 := by unfold gone; rw [if_pos (by omega)]
   have e2 : gone a b lo (m + 1) = 0 := by unfold gone; rw [if_pos (by omega)]
   rw [e1, e2, if_neg (by omega)]
   grind
  ·by_cases h2 : b ≤ lo + m
   ·have e1 : gone a b lo m = b - a := by unfold gone; rw [if_neg (by omega), if_pos (by omega)]
    have e2 : gone a b lo (m + 1) = b - a := by unfold gone; rw [if_neg (by omega), if_pos (by omega)]
    rw [e1, e2, if_neg (by omega)]
    grind
   ·have e1 : gone a b lo m = lo + m - a := by
     unfold gone
     by_cases h3 : lo + (m : Int) ≤ a
     ·rw [if_pos h3]; omega
     ·rw [if_neg h3, if_neg (by omega)]
    have e2 : gone a b lo (m + 1) = lo + m - a + 1 := by
     unfold gone
     rw [if_neg (by omega)]
     by_cases h3 : b ≤ lo + ((m + 1 : Nat) : Int)
     ·rw [if_pos h3]; omega
     ·rw [if_neg h3]; omega
    rw [e1, e2, if_pos (by omega)]
    generalize hz : lo + (m : Int) = z
    unfold X lvr
    rw [hu, hv]
    have d1 : ∀ t : Rat, (v.x - u.x) * (t / ((b : Rat) - a)) = (v.x - u.x) / (b - a) * t := fun t => by
     rw [Rat.div_def, Rat.div_def]; grind
    simp only [d1]
    generalize (v.x - u.x) / ((b : Rat) - a) = k
    simp only [Rat.intCast_add, Rat.intCast_sub, Rat.intCast_one]
    grind
theorem sedge_all {u v : Q2} {a b lo : Int} {K : Nat} (hu : u.h = a) (hv : v.h = b) (hab : a < b) (hlo : lo ≤ a) (hK : b ≤ lo + K) :
  rsum K (fun k => 3 * q3 (sqd u v) (lo + k)) = (v.h - u.h) * (u.x * u.x + u.x * v.x + v.x * v.x) := by
 rw [sedge_part hu hv hab hlo, hu, hv]
 have e : gone a b lo K = b - a := by unfold gone; rw [if_neg (by omega), if_pos hK]
 have hn : (b : Rat) - a ≠ 0 := by
  have : (a : Rat) < b := by exact_mod_cast hab
  grind
 rw [e, Rat.intCast_sub]
 have d1 : (v.x - u.x) / ((b : Rat) - a) * ((b : Rat) - a) = v.x - u.x := by
  rw [Rat.div_def, Rat.mul_assoc, Rat.inv_mul_cancel _ hn, Rat.mul_one]
 generalize (v.x - u.x) / ((b : Rat) - a) = k at *
 have hk : v.x = u.x + k * (b - a) := by grind
 rw [hk]
 grind
theorem sqd_rev {u v : Q2} (h : u.h ≠ v.h) (y : Rat) : sqd u v y = - sqd v u y := by
 unfold sqd
 rw [dir_rev u v, X_rev h, Rat.intCast_neg]
 grind
theorem sedge_any {u v : Q2} {a b lo : Int} {K : Nat} (hu : u.h = a) (hv : v.h = b) (hab : a ≠ b) (ha : lo ≤ a) (hb : lo ≤ b) (hKa : a ≤ lo + K) (hKb : b ≤ lo + K) :
  rsum K (fun k => 3 * q3 (sqd u v) (lo + k)) = (v.h - u.h) * (u.x * u.x + u.x * v.x + v.x * v.x) := by
 rcases Int.lt_or_lt_of_ne hab with h | h
 ·exact sedge_all hu hv h ha hKb
 ·have hne : u.h ≠ v.h := by
   rw [hu, hv]
   intro e
   have : a = b := by exact_mod_cast e
   exact hab this
  have e := sedge_all hv hu h hb hKa
  have : rsum K (fun k => 3 * q3 (sqd u v) (lo + k)) = rsum K (fun k => - (3 * q3 (sqd v u) (lo + k))) := rsum_congr fun k _ => by
   unfold q3
   simp only [sqd_rev hne]
   grind
  rw [this, rsum_neg, e]
  grind
def chg (f : Rat → Rat) (l : List (Rat × Int)) : List (Rat × Int) := l.map fun e => (f e.1, e.2)
theorem chg_alt {f : Rat → Rat} {l : List (Rat × Int)} (a : Alt l) (h : ∀ e ∈ l, ∀ g ∈ l, e.1 < g.1 → f e.1 < f g.1) : Alt (chg f l) := by
 have hc : ∀ e ∈ l, ∀ g ∈ l, f e.1 < f g.1 → e.1 < g.1 := fun e he g hg hl => by
  by_cases h1 : e.1 < g.1
  ·exact h1
  ·by_cases h2 : g.1 < e.1
   ·have := h g hg e he h2; grind
   ·have : e.1 = g.1 := by grind
    rw [this] at hl; grind
 constructor
 ·have := a.nd
  unfold chg
  rw [List.map_map]
  unfold List.Nodup at *
  rw [List.pairwise_map] at *
  refine List.Pairwise.imp_of_mem (fun {e g} he hg hne heq => ?_) this
  have heq : f e.1 = f g.1 := heq
  by_cases h1 : e.1 < g.1
  ·have := h e he g hg h1; grind
  ·have := h g hg e he (by grind); grind
 ·intro e he
  obtain ⟨g, hg, rfl⟩ := List.mem_map.1 he
  have : gsum (chg f l) (f g.1) = gsum l g.1 := by
   unfold gsum chg
   rw [List.map_map]
   congr 1
   apply List.map_congr_left
   intro k hk
   show (if f g.1 < f k.1 then k.2 else 0) = _
   by_cases h1 : g.1 < k.1
   ·rw [if_pos h1, if_pos (h g hg k hk h1)]
   ·rw [if_neg h1, if_neg fun h2 => h1 (hc g hg k hk h2)]
  simp only
  rw [this]
  exact a.alt g hg
theorem chg_tsum (f : Rat → Rat) (l : List (Rat × Int)) : tsum (chg f l) = tsum l := by
 unfold tsum chg; rw [List.map_map]; rfl
def dsq (l : List (Rat × Int)) : Rat := (l.map fun e => (e.2 : Rat) * (e.1 * e.1)).sum
theorem chg_low (L : Rat) (l : List (Rat × Int)) : dsum (chg (fun x => (x - L) * (x - L)) l) = dsq l - 2 * L * dsum l + L * L * (tsum l : Int) := by
 unfold dsum dsq tsum chg
 rw [List.map_map]
 induction l with
 | nil => simp; grind
 | cons a l ih =>
  simp only [List.map_cons, List.sum_cons, Function.comp] at ih ⊢
  rw [ih, Rat.intCast_add]
  grind
theorem chg_high (L : Rat) (l : List (Rat × Int)) : dsum (chg (fun x => -((L - x) * (L - x))) l) = -(dsq l - 2 * L * dsum l + L * L * (tsum l : Int)) := by
 unfold dsum dsq tsum chg
 rw [List.map_map]
 induction l with
 | nil => simp; grind
 | cons a l ih =>
  simp only [List.map_cons, List.sum_cons, Function.comp] at ih ⊢
  rw [ih, Rat.intCast_add]
  grind
theorem Alt.low {l : List (Rat × Int)} (a : Alt l) (ht : tsum l = 0) {L : Rat} (h : ∀ e ∈ l, L ≤ e.1) : 2 * L * dsum l ≤ dsq l := by
 have := (dsum_pos _ _ (Nat.le_refl _) (chg_alt (f := fun x => (x - L) * (x - L)) a fun e he g hg hl => by
  have h1 := h e he
  have h2 : 0 ≤ e.1 - L := by grind
  have h3 : 0 < g.1 - e.1 := by grind
  have h4 : 0 < g.1 - L := by grind
  have h5 := Rat.mul_nonneg h2 (show 0 ≤ g.1 - e.1 by grind)
  have h6 := Rat.mul_pos h4 h3
  show (e.1 - L) * (e.1 - L) < (g.1 - L) * (g.1 - L)
  grind) (by rw [chg_tsum, ht])).1
 rw [chg_low, ht] at this
 grind
theorem Alt.high {l : List (Rat × Int)} (a : Alt l) (ht : tsum l = 0) {L : Rat} (h : ∀ e ∈ l, e.1 ≤ L) : dsq l ≤ 2 * L * dsum l := by
 have := (dsum_pos _ _ (Nat.le_refl _) (chg_alt (f := fun x => -((L - x) * (L - x))) a fun e he g hg hl => by
  have h1 := h g hg
  have h2 : 0 ≤ L - g.1 := by grind
  have h3 : 0 < g.1 - e.1 := by grind
  have h4 : 0 < L - e.1 := by grind
  have h5 := Rat.mul_nonneg h2 (show 0 ≤ g.1 - e.1 by grind)
  have h6 := Rat.mul_pos h4 h3
  show -((L - e.1) * (L - e.1)) < -((L - g.1) * (L - g.1))
  grind) (by rw [chg_tsum, ht])).1
 rw [chg_high, ht] at this
 grind
theorem dsq_app (l m : List (Rat × Int)) : dsq (l ++ m) = dsq l + dsq m := by
 unfold dsq; rw [List.map_append, List.sum_append]
theorem cl_dsq (P : Nat → Q2) (y : Rat) : ∀ n, dsq (cl P y n) = rsum n (fun j => sqd (P j) (P (j + 1)) y)
 | 0 => rfl
 | n + 1 => by
  have ih := cl_dsq P y n
  show dsq (if _ then _ else _) = rsum n _ + _
  rw [← ih]
  by_cases h : dir (P n) (P (n + 1)) y = 0
  ·rw [if_pos h]
   unfold sqd
   simp only [h, Rat.intCast_zero]
   grind
  ·rw [if_neg h]
   unfold dsq sqd
   simp only [List.map_cons, List.sum_cons]
   grind
theorem fam_dsq (N : Nat → Nat) (P : Nat → Nat → Q2) (y : Rat) : ∀ m, dsq (fam N P y m) = rsum m fun i => dsq (cl (P i) y (N i))
 | 0 => rfl
 | m + 1 => by
  show dsq (_ ++ _) = rsum m _ + _
  rw [dsq_app, fam_dsq N P y m, Rat.add_comm]
theorem rsum_mulk (k : Rat) (f : Nat → Rat) : ∀ n, rsum n (fun j => k * f j) = k * rsum n f
 | 0 => by show (0 : Rat) = k * 0; grind
 | n + 1 => by show rsum n _ + k * f n = k * (rsum n f + f n); rw [rsum_mulk k f n]; grind
def mom2 (n : Nat) (P : Nat → Q2) : Rat := rsum n (fun j => ((P (j + 1)).h - (P j).h) * ((P j).x * (P j).x + (P j).x * (P (j + 1)).x + (P (j + 1)).x * (P (j + 1)).x))
theorem mom_levels {n : Nat} {P : Nat → Q2} (c : Contour n P) {H : Nat → Int} (hH : ∀ j, (P j).h = H j) {lo : Int} {K : Nat} (h1 : ∀ j, lo ≤ H j) (h2 : ∀ j, H j ≤ lo + K) :
  mom2 n P = rsum K (fun k => 3 * q3 (fun y => dsq (cl P y n)) (lo + k)) := by
 have n3 := c.n3
 have e : ∀ j, j < n → ((P (j + 1)).h - (P j).h) * ((P j).x * (P j).x + (P j).x * (P (j + 1)).x + (P (j + 1)).x * (P (j + 1)).x) = rsum K (fun k => 3 * q3 (sqd (P j) (P (j + 1))) (lo + k)) := fun j _ =>
  (sedge_any (hH j) (hH (j + 1)) (fun e => c.lev j (j + 1) (by omega) (by omega) (by rw [hH, hH, e])) (h1 j) (h1 (j + 1)) (h2 j) (h2 (j + 1))).symm
 unfold mom2
 rw [rsum_congr e, rsum_swap]
 refine rsum_congr fun k _ => ?_
 have e2 : (fun y => dsq (cl P y n)) = fun y => rsum n fun j => sqd (P j) (P (j + 1)) y := by funext y; exact cl_dsq P y n
 rw [e2, q3_rsum]
 exact rsum_mulk 3 (fun j => q3 (sqd (P j) (P (j + 1))) (lo + k)) n
theorem rsum_le {f g : Nat → Rat} : ∀ (K : Nat), (∀ k, k < K → f k ≤ g k) → rsum K f ≤ rsum K g
 | 0, _ => Rat.le_refl
 | K + 1, h => by
  have := rsum_le K fun k hk => h k (by omega)
  have h2 := h K (by omega)
  show rsum K f + f K ≤ rsum K g + g K
  grind
theorem X_bd {u v : Q2} {y L U : Rat} (hd : dir u v y ≠ 0) (h1 : L ≤ u.x) (h2 : L ≤ v.x) (h3 : u.x ≤ U) (h4 : v.x ≤ U) : L ≤ X u v y ∧ X u v y ≤ U := by
 have key : ∀ {t : Rat}, 0 ≤ t → t ≤ 1 → L ≤ u.x + (v.x - u.x) * t ∧ u.x + (v.x - u.x) * t ≤ U := fun {t} t0 t1 => by
  have a1 := Rat.mul_nonneg (show 0 ≤ u.x - L by grind) (show 0 ≤ 1 - t by grind)
  have a2 := Rat.mul_nonneg (show 0 ≤ v.x - L by grind) t0
  have a3 := Rat.mul_nonneg (show 0 ≤ U - u.x by grind) (show 0 ≤ 1 - t by grind)
  have a4 := Rat.mul_nonneg (show 0 ≤ U - v.x by grind) t0
  constructor <;> grind
 have hne : v.h - u.h ≠ 0 := by
  rcases dir_cases hd with ⟨g1, g2, _⟩ | ⟨g1, g2, _⟩ <;> grind
 have hm : (y - u.h) / (v.h - u.h) * (v.h - u.h) = y - u.h := by
  rw [Rat.div_def, Rat.mul_assoc, Rat.inv_mul_cancel _ hne, Rat.mul_one]
 unfold X
 generalize (y - u.h) / (v.h - u.h) = t at *
 refine key ?_ ?_
 ·by_cases h0 : 0 ≤ t
  ·exact h0
  ·exfalso
   rcases dir_cases hd with ⟨g1, g2, _⟩ | ⟨g1, g2, _⟩
   ·have := Rat.mul_pos (show 0 < -t by grind) (show 0 < v.h - u.h by grind); grind
   ·have := Rat.mul_pos (show 0 < -t by grind) (show 0 < u.h - v.h by grind); grind
 ·by_cases h0 : t ≤ 1
  ·exact h0
  ·exfalso
   rcases dir_cases hd with ⟨g1, g2, _⟩ | ⟨g1, g2, _⟩
   ·have := Rat.mul_pos (show 0 < t - 1 by grind) (show 0 < v.h - u.h by grind); grind
   ·have := Rat.mul_pos (show 0 < t - 1 by grind) (show 0 < u.h - v.h by grind); grind
theorem Family.centre {m : Nat} {N : Nat → Nat} {P : Nat → Nat → Q2} (F : Family m N P) {H : Nat → Nat → Int} (hH : ∀ i j, (P i j).h = H i j) {lo : Int} {K : Nat} (h1 : ∀ i j, lo ≤ H i j) (h2 : ∀ i j, H i j ≤ lo + K) {L U : Rat} (hx : ∀ i, i < m → ∀ j, L ≤ (P i j).x ∧ (P i j).x ≤ U) :
  3 * L * rsum m (fun i => area2 (N i) (P i)) ≤ rsum m (fun i => mom2 (N i) (P i)) ∧ rsum m (fun i => mom2 (N i) (P i)) ≤ 3 * U * rsum m fun i => area2 (N i) (P i) := by
 have gen : ∀ (z : Int) (r : Rat), 0 < r → r < 1 → ∀ i j, i < m → (P i j).h ≠ lvr r z := fun z r r0 r1 i j _ e => lvr_ne r0 r1 (H i j) z (by rw [← hH]; exact e)
 have ea : rsum m (fun i => area2 (N i) (P i)) = rsum K fun k => 2 * q3 (fun y => dsum (fam N P y m)) (lo + k) := by
  rw [rsum_congr fun i hi => area_levels (F.con i hi) (hH i) (h1 i) (h2 i), rsum_swap]
  refine rsum_congr fun k _ => ?_
  rw [rsum_mulk]
  congr 1
  have e2 : (fun y => dsum (fam N P y m)) = fun y => rsum m fun i => dsum (cl (P i) y (N i)) := by funext y; exact fam_dsum N P y m
  rw [e2, q3_rsum]
  refine rsum_congr fun i _ => ?_
  have e3 : (fun y => dsum (cl (P i) y (N i))) = fun y => rsum (N i) fun j => (dir (P i j) (P i (j + 1)) y : Rat) * X (P i j) (P i (j + 1)) y := by funext y; exact cl_dsum (P i) y (N i)
  rw [e3, q3_rsum, cl_dsum]
  exact (rsum_congr fun j _ => q3_lin (hH i j) (hH i (j + 1)) (lo + k)).symm
 have em : rsum m (fun i => mom2 (N i) (P i)) = rsum K fun k => 3 * q3 (fun y => dsq (fam N P y m)) (lo + k) := by
  rw [rsum_congr fun i hi => mom_levels (F.con i hi) (hH i) (h1 i) (h2 i), rsum_swap]
  refine rsum_congr fun k _ => ?_
  rw [rsum_mulk]
  congr 1
  have e2 : (fun y => dsq (fam N P y m)) = fun y => rsum m fun i => dsq (cl (P i) y (N i)) := by funext y; exact fam_dsq N P y m
  rw [e2, q3_rsum]
 have hb : ∀ y, ∀ e ∈ fam N P y m, L ≤ e.1 ∧ e.1 ≤ U := fun y e he => by
  obtain ⟨i, hi, he⟩ := fam_mem he
  obtain ⟨j, _, hd, rfl⟩ := cl_mem he
  exact X_bd hd (hx i hi j).1 (hx i hi (j + 1)).1 (hx i hi j).2 (hx i hi (j + 1)).2
 rw [ea, em, ← rsum_mulk, ← rsum_mulk]
 constructor
 ·refine rsum_le K fun k _ => ?_
  have : q3 (fun y => 2 * L * dsum (fam N P y m)) (lo + k) ≤ q3 (fun y => dsq (fam N P y m)) (lo + k) := q3_le fun r r0 r1 => (F.alt (gen _ r r0 r1)).low (F.total (gen _ r r0 r1)) fun e he => (hb _ e he).1
  rw [q3_mul] at this
  grind
 ·refine rsum_le K fun k _ => ?_
  have : q3 (fun y => dsq (fam N P y m)) (lo + k) ≤ q3 (fun y => 2 * U * dsum (fam N P y m)) (lo + k) := q3_le fun r r0 r1 => (F.alt (gen _ r r0 r1)).high (F.total (gen _ r r0 r1)) fun e he => (hb _ e he).2
  rw [q3_mul] at this
  grind
end Go.Proofs.YtngginofamlkkaaGreatDoor.PlaneG

namespace Go.Proofs.YtngginofamlkkaaGreatDoor.PlaneG
def m6 (n : Nat) (p : Nat → I2) : Int := isum n fun j => ((p j).x + (p (j + 1)).x) * ((p j).x * (p (j + 1)).y - (p (j + 1)).x * (p j).y)
theorem mom_m6 {n : Nat} {p : Nat → I2} (per : ∀ i, p (i + n) = p i) (M : Int) : mom2 n (fun i => shp M (p i)) = ((M * m6 n p : Int) : Rat) := by
 have e : mom2 n (fun i => shp M (p i)) = ((isum n (fun j => (lvl M (p (j + 1)) - lvl M (p j)) * ((p j).x * (p j).x + (p j).x * (p (j + 1)).x + (p (j + 1)).x * (p (j + 1)).x)) : Int) : Rat) := by
  rw [← rsum_cast]
  unfold mom2
  refine rsum_congr fun j _ => ?_
  simp only [shp, Rat.intCast_mul, Rat.intCast_add, Rat.intCast_sub]
 rw [e]
 congr 1
 have e1 : ∀ j, (lvl M (p (j + 1)) - lvl M (p j)) * ((p j).x * (p j).x + (p j).x * (p (j + 1)).x + (p (j + 1)).x * (p (j + 1)).x) = M * (((p j).x + (p (j + 1)).x) * ((p j).x * (p (j + 1)).y - (p (j + 1)).x * (p j).y)) + ((fun i => M * ((p i).x * (p i).x * (p i).y) - (p i).x * (p i).x * (p i).x) (j + 1) - (fun i => M * ((p i).x * (p i).x * (p i).y) - (p i).x * (p i).x * (p i).x) j) := fun j => by
  unfold lvl
  grind
 have tel := isum_tel n fun i => M * ((p i).x * (p i).x * (p i).y) - (p i).x * (p i).x * (p i).x
 have h0 := per 0
 rw [Nat.zero_add] at h0
 simp only [h0, Int.sub_self] at tel
 rw [isum_congr fun j _ => e1 j, isum_add]
 simp only
 rw [tel, isum_mul]
 unfold m6
 omega
theorem odd_x {n : Nat} {p : Nat → I2} (per : p n = p 0) {q : I2} (h : oddI n p q = true) : (∃ j, q.x ≤ (p j).x) ∧ ∃ j, (p j).x ≤ q.x := by
 have ho := (oddI_wind p q n).1 h
 constructor
 ·refine Classical.byContradiction fun hn => ?_
  have hx : ∀ j, (p j).x < q.x := fun j => by
   rcases Int.lt_or_le (p j).x q.x with h | h
   ·exact h
   ·exact absurd ⟨j, h⟩ hn
  have z : windI n p q = 0 := by
   unfold windI
   rw [isum_congr (g := fun _ => 0) fun j _ => ?_, isum_zero]
   have x1 := hx j
   have x2 := hx (j + 1)
   have e : cri (p j) (p (j + 1)) q = (q.y - (p j).y) * ((p (j + 1)).x - q.x) + ((p (j + 1)).y - q.y) * ((p j).x - q.x) := by unfold cri; grind
   unfold wtI
   by_cases c1 : (p j).y ≤ q.y ∧ q.y < (p (j + 1)).y
   ·have a1 := Int.mul_nonpos_of_nonneg_of_nonpos (show 0 ≤ q.y - (p j).y by omega) (show (p (j + 1)).x - q.x ≤ 0 by omega)
    have a2 := Int.mul_nonpos_of_nonneg_of_nonpos (show 0 ≤ (p (j + 1)).y - q.y by omega) (show (p j).x - q.x ≤ 0 by omega)
    rw [if_neg (by omega), if_neg (by omega)]
   ·by_cases c2 : (p (j + 1)).y ≤ q.y ∧ q.y < (p j).y
    ·have a1 := Int.mul_nonneg_of_nonpos_of_nonpos (show q.y - (p j).y ≤ 0 by omega) (show (p (j + 1)).x - q.x ≤ 0 by omega)
     have a2 := Int.mul_nonneg_of_nonpos_of_nonpos (show (p (j + 1)).y - q.y ≤ 0 by omega) (show (p j).x - q.x ≤ 0 by omega)
     rw [if_neg (by omega), if_neg (by omega)]
    ·rw [if_neg (by omega), if_neg (by omega)]
  omega
 ·refine Classical.byContradiction fun hn => ?_
  have hx : ∀ j, q.x < (p j).x := fun j => by
   rcases Int.lt_or_le q.x (p j).x with h | h
   ·exact h
   ·exact absurd ⟨j, h⟩ hn
  have z : windI n p q = 0 := by
   have e : ∀ j, wtI (p j) (p (j + 1)) q = (fun i => if (p i).y ≤ q.y then (-1 : Int) else 0) (j + 1) - (fun i => if (p i).y ≤ q.y then (-1 : Int) else 0) j := fun j => by
    have x1 := hx j
    have x2 := hx (j + 1)
    have e : cri (p j) (p (j + 1)) q = (q.y - (p j).y) * ((p (j + 1)).x - q.x) + ((p (j + 1)).y - q.y) * ((p j).x - q.x) := by unfold cri; grind
    unfold wtI
    simp only
    by_cases c1 : (p j).y ≤ q.y <;> by_cases c2 : (p (j + 1)).y ≤ q.y
    ·rw [if_neg (by omega), if_neg (by omega), if_pos c2, if_pos c1]; rfl
    ·have a1 := Int.mul_nonneg (show 0 ≤ q.y - (p j).y by omega) (show 0 ≤ (p (j + 1)).x - q.x by omega)
     have a2 := Int.mul_pos (show 0 < (p (j + 1)).y - q.y by omega) (show 0 < (p j).x - q.x by omega)
     rw [if_pos (by omega), if_neg c2, if_pos c1]; rfl
    ·have a1 := Int.mul_neg_of_neg_of_pos (show q.y - (p j).y < 0 by omega) (show 0 < (p (j + 1)).x - q.x by omega)
     have a2 := Int.mul_nonpos_of_nonpos_of_nonneg (show (p (j + 1)).y - q.y ≤ 0 by omega) (show 0 ≤ (p j).x - q.x by omega)
     rw [if_neg (by omega), if_pos (by omega), if_pos c2, if_neg c1]; rfl
    ·rw [if_neg (by omega), if_neg (by omega), if_neg c2, if_neg c1]; rfl
   have tel := isum_tel n fun i => if (p i).y ≤ q.y then (-1 : Int) else 0
   simp only [per, Int.sub_self] at tel
   unfold windI
   rw [isum_congr fun j _ => e j]
   exact tel
  omega
theorem Holes.centre {N : Int} {m : Nat} {n : Nat → Nat} {p : Nat → Nat → I2} (h : Holes N m n p) {L U : Int} (hL : ∀ s, L ≤ (p 0 s).x) (hU : ∀ s, (p 0 s).x ≤ U) :
  3 * L * isum m (fun i => a2 (n i) (p i)) ≤ isum m (fun i => m6 (n i) (p i)) ∧ isum m (fun i => m6 (n i) (p i)) ≤ 3 * U * isum m fun i => a2 (n i) (p i) := by
 have hN : 0 ≤ N := by have := h.bd 0 0; unfold Bx at this; omega
 have hx : ∀ i, i < m → ∀ s, L ≤ (p i s).x ∧ (p i s).x ≤ U := fun i hi s => by
  by_cases h0 : i = 0
  ·subst h0; exact ⟨hL s, hU s⟩
  ·obtain ⟨⟨j, hj⟩, k, hk⟩ := odd_x (by have := (h.simp 0 h.m0).per 0; rwa [Nat.zero_add] at this) (h.inn i (by omega) hi s)
   have := hL k
   have := hU j
   omega
 have hl : ∀ i s, -(2 * N + 1) * N - N ≤ lvl (2 * N + 1) (p i s) ∧ lvl (2 * N + 1) (p i s) ≤ (2 * N + 1) * N + N := fun i s => by
  obtain ⟨h1, h2, h3, h4⟩ := h.bd i s
  have a1 := Int.mul_le_mul_of_nonneg_left h3 (show 0 ≤ 2 * N + 1 by omega)
  have a2 := Int.mul_le_mul_of_nonneg_left h4 (show 0 ≤ 2 * N + 1 by omega)
  have a3 : (2 * N + 1) * -N = -(2 * N + 1) * N := by grind
  unfold lvl
  omega
 have hp := h.family.centre (H := fun i s => lvl (2 * N + 1) (p i s)) (fun _ _ => rfl) (lo := -(2 * N + 1) * N - N) (K := (2 * ((2 * N + 1) * N + N)).toNat) (fun i s => (hl i s).1) (fun i s => by
  have := hl i s
  have e : -(2 * N + 1) * N = -((2 * N + 1) * N) := Int.neg_mul _ _
  have nn := Int.mul_nonneg (show 0 ≤ 2 * N + 1 by omega) hN
  generalize (2 * N + 1) * N = z at *
  omega) (L := (L : Rat)) (U := (U : Rat)) (fun i hi s => by
   obtain ⟨h1, h2⟩ := hx i hi s
   exact ⟨Rat.intCast_le_intCast.2 h1, Rat.intCast_le_intCast.2 h2⟩)
 rw [rsum_congr fun i hi => area_a2 (h.simp i hi).per (2 * N + 1), rsum_congr fun i hi => mom_m6 (h.simp i hi).per (2 * N + 1), rsum_cast m fun i => (2 * N + 1) * a2 (n i) (p i), rsum_cast m fun i => (2 * N + 1) * m6 (n i) (p i), isum_mul, isum_mul] at hp
 obtain ⟨h1, h2⟩ := hp
 have c1 : ((3 * L * ((2 * N + 1) * isum m (fun i => a2 (n i) (p i))) : Int) : Rat) ≤ (((2 * N + 1) * isum m (fun i => m6 (n i) (p i)) : Int) : Rat) := by
  have e : ((3 * L * ((2 * N + 1) * isum m (fun i => a2 (n i) (p i))) : Int) : Rat) = 3 * (L : Rat) * (((2 * N + 1) * isum m (fun i => a2 (n i) (p i)) : Int) : Rat) := by
   rw [Rat.intCast_mul, Rat.intCast_mul]
   rfl
  rw [e]; exact h1
 have c2 : (((2 * N + 1) * isum m (fun i => m6 (n i) (p i)) : Int) : Rat) ≤ ((3 * U * ((2 * N + 1) * isum m (fun i => a2 (n i) (p i))) : Int) : Rat) := by
  have e : ((3 * U * ((2 * N + 1) * isum m (fun i => a2 (n i) (p i))) : Int) : Rat) = 3 * (U : Rat) * (((2 * N + 1) * isum m (fun i => a2 (n i) (p i)) : Int) : Rat) := by
   rw [Rat.intCast_mul, Rat.intCast_mul]
   rfl
  rw [e]; exact h2
 have c1 := Rat.intCast_le_intCast.1 c1
 have c2 := Rat.intCast_le_intCast.1 c2
 generalize isum m (fun i => a2 (n i) (p i)) = A at *
 generalize isum m (fun i => m6 (n i) (p i)) = B at *
 have e1 : 3 * L * ((2 * N + 1) * A) = (2 * N + 1) * (3 * L * A) := by grind
 have e2 : 3 * U * ((2 * N + 1) * A) = (2 * N + 1) * (3 * U * A) := by grind
 rw [e1] at c1
 rw [e2] at c2
 exact ⟨Int.le_of_mul_le_mul_left c1 (by omega), Int.le_of_mul_le_mul_left c2 (by omega)⟩
end Go.Proofs.YtngginofamlkkaaGreatDoor.PlaneG

namespace Go.Proofs.YtngginofamlkkaaGreatDoor.PlaneG
def hxd (u v : Q2) (y : Rat) : Rat := (dir u v y : Rat) * (y * X u v y)
theorem hedge_part {u v : Q2} {a b lo : Int} (hu : u.h = a) (hv : v.h = b) (hab : a < b) (hlo : lo ≤ a) (m : Nat) :
  rsum m (fun k => 6 * q3 (hxd u v) (lo + k)) = 6 * u.x * a * gone a b lo m + 3 * (u.x + (v.x - u.x) / (b - a) * a) * gone a b lo m * gone a b lo m + 2 * ((v.x - u.x) / (b - a)) * gone a b lo m * gone a b lo m * gone a b lo m := by
 induction m with
 | zero =>
  have : gone a b lo 0 = 0 := by unfold gone; rw [if_pos (by omega)]
  rw [this]
  show (0 : Rat) = _
  grind
 | succ m ih =>
  show rsum m _ + 6 * q3 (hxd u v) (lo + m) = _
  rw [ih]
  have hs : ∀ r : Rat, 0 < r → r < 1 → dir u v (lvr r (lo + m)) = if a ≤ lo + m ∧ lo + m < b then 1 else 0 := fun r h0 h1 => by
   rw [dir_strip hu hv h0 h1]
   by_cases h : a ≤ lo + m ∧ lo + m < b
   ·rw [if_pos h, if_pos h]
   ·rw [if_neg h, if_neg h, if_neg (by omega)]
  unfold q3 hxd
  simp only [hs _ r1.1 r1.2, hs _ r2.1 r2.2, hs _ r3.1 r3.2]
  by_cases h1 : lo + m + 1 ≤ a
  ·have e1 : gone a b lo m = 0 := by unfold gone; rw [if_pos (by omega)]
   have e2 : gone a b lo (m + 1) = 0 := by unfold gone; rw [if_pos (by omega)]
   rw [e1, e2, if_neg (by omega)]
   grind
  ·by_cases h2 : b ≤ lo + m
   ·have e1 : gone a b lo m = b - a := by unfold gone; rw [if_neg (by omega), if_pos (by omega)]
    have e2 : gone a b lo (m + 1) = b - a := by unfold gone; rw [if_neg (by omega), if_pos (by omega)]
    rw [e1, e2, if_neg (by omega)]
    grind
   ·have e1 : gone a b lo m = lo + m - a := by
     unfold gone
     by_cases h3 : lo + (m : Int) ≤ a
     ·rw [if_pos h3]; omega
     ·rw [if_neg h3, if_neg (by omega)]
    have e2 : gone a b lo (m + 1) = lo + m - a + 1 := by
     unfold gone
     rw [if_neg (by omega)]
     by_cases h3 : b ≤ lo + ((m + 1 : Nat) : Int)
     ·rw [if_pos h3]; omega
     ·rw [if_neg h3]; omega
    rw [e1, e2, if_pos (by omega)]
    generalize hz : lo + (m : Int) = z
    unfold X lvr
    rw [hu, hv]
    have d1 : ∀ t : Rat, (v.x - u.x) * (t / ((b : Rat) - a)) = (v.x - u.x) / (b - a) * t := fun t => by
     rw [Rat.div_def, Rat.div_def]; grind
    simp only [d1]
    generalize (v.x - u.x) / ((b : Rat) - a) = k
    simp only [Rat.intCast_add, Rat.intCast_sub, Rat.intCast_one]
    grind
theorem hedge_all {u v : Q2} {a b lo : Int} {K : Nat} (hu : u.h = a) (hv : v.h = b) (hab : a < b) (hlo : lo ≤ a) (hK : b ≤ lo + K) :
  rsum K (fun k => 6 * q3 (hxd u v) (lo + k)) = (v.h - u.h) * (2 * u.x * u.h + u.x * v.h + v.x * u.h + 2 * v.x * v.h) := by
 rw [hedge_part hu hv hab hlo, hu, hv]
 have e : gone a b lo K = b - a := by unfold gone; rw [if_neg (by omega), if_pos hK]
 have hn : (b : Rat) - a ≠ 0 := by
  have : (a : Rat) < b := by exact_mod_cast hab
  grind
 rw [e, Rat.intCast_sub]
 have d1 : (v.x - u.x) / ((b : Rat) - a) * ((b : Rat) - a) = v.x - u.x := by
  rw [Rat.div_def, Rat.mul_assoc, Rat.inv_mul_cancel _ hn, Rat.mul_one]
 generalize (v.x - u.x) / ((b : Rat) - a) = k at *
 have hk : v.x = u.x + k * (b - a) := by grind
 rw [hk]
 grind
theorem hxd_rev {u v : Q2} (h : u.h ≠ v.h) (y : Rat) : hxd u v y = - hxd v u y := by
 unfold hxd
 rw [dir_rev u v, X_rev h, Rat.intCast_neg]
 grind
theorem hedge_any {u v : Q2} {a b lo : Int} {K : Nat} (hu : u.h = a) (hv : v.h = b) (hab : a ≠ b) (ha : lo ≤ a) (hb : lo ≤ b) (hKa : a ≤ lo + K) (hKb : b ≤ lo + K) :
  rsum K (fun k => 6 * q3 (hxd u v) (lo + k)) = (v.h - u.h) * (2 * u.x * u.h + u.x * v.h + v.x * u.h + 2 * v.x * v.h) := by
 rcases Int.lt_or_lt_of_ne hab with h | h
 ·exact hedge_all hu hv h ha hKb
 ·have hne : u.h ≠ v.h := by
   rw [hu, hv]
   intro e
   have : a = b := by exact_mod_cast e
   exact hab this
  have e := hedge_all hv hu h hb hKa
  have : rsum K (fun k => 6 * q3 (hxd u v) (lo + k)) = rsum K (fun k => - (6 * q3 (hxd v u) (lo + k))) := rsum_congr fun k _ => by
   unfold q3
   simp only [hxd_rev hne]
   grind
  rw [this, rsum_neg, e]
  grind
theorem cl_hsum (P : Nat → Q2) (y : Rat) (n : Nat) : y * dsum (cl P y n) = rsum n (fun j => hxd (P j) (P (j + 1)) y) := by
 rw [cl_dsum, ← rsum_mulk]
 refine rsum_congr fun j _ => ?_
 unfold hxd
 grind
def momh (n : Nat) (P : Nat → Q2) : Rat := rsum n (fun j => ((P (j + 1)).h - (P j).h) * (2 * (P j).x * (P j).h + (P j).x * (P (j + 1)).h + (P (j + 1)).x * (P j).h + 2 * (P (j + 1)).x * (P (j + 1)).h))
theorem momh_levels {n : Nat} {P : Nat → Q2} (c : Contour n P) {H : Nat → Int} (hH : ∀ j, (P j).h = H j) {lo : Int} {K : Nat} (h1 : ∀ j, lo ≤ H j) (h2 : ∀ j, H j ≤ lo + K) :
  momh n P = rsum K (fun k => 6 * q3 (fun y => y * dsum (cl P y n)) (lo + k)) := by
 have n3 := c.n3
 have e : ∀ j, j < n → ((P (j + 1)).h - (P j).h) * (2 * (P j).x * (P j).h + (P j).x * (P (j + 1)).h + (P (j + 1)).x * (P j).h + 2 * (P (j + 1)).x * (P (j + 1)).h) = rsum K (fun k => 6 * q3 (hxd (P j) (P (j + 1))) (lo + k)) := fun j _ =>
  (hedge_any (hH j) (hH (j + 1)) (fun e => c.lev j (j + 1) (by omega) (by omega) (by rw [hH, hH, e])) (h1 j) (h1 (j + 1)) (h2 j) (h2 (j + 1))).symm
 unfold momh
 rw [rsum_congr e, rsum_swap]
 refine rsum_congr fun k _ => ?_
 have e2 : (fun y => y * dsum (cl P y n)) = fun y => rsum n fun j => hxd (P j) (P (j + 1)) y := by funext y; exact cl_hsum P y n
 rw [e2, q3_rsum]
 exact rsum_mulk 6 (fun j => q3 (hxd (P j) (P (j + 1))) (lo + k)) n
theorem Family.centreY {m : Nat} {N : Nat → Nat} {P : Nat → Nat → Q2} (F : Family m N P) {H : Nat → Nat → Int} (hH : ∀ i j, (P i j).h = H i j) {lo : Int} {K : Nat} (h1 : ∀ i j, lo ≤ H i j) (h2 : ∀ i j, H i j ≤ lo + K) :
  3 * (lo : Rat) * rsum m (fun i => area2 (N i) (P i)) ≤ rsum m (fun i => momh (N i) (P i)) ∧ rsum m (fun i => momh (N i) (P i)) ≤ 3 * ((lo + K : Int) : Rat) * rsum m fun i => area2 (N i) (P i) := by
 have gen : ∀ (z : Int) (r : Rat), 0 < r → r < 1 → ∀ i j, i < m → (P i j).h ≠ lvr r z := fun z r r0 r1 i j _ e => lvr_ne r0 r1 (H i j) z (by rw [← hH]; exact e)
 have ea : rsum m (fun i => area2 (N i) (P i)) = rsum K fun k => 2 * q3 (fun y => dsum (fam N P y m)) (lo + k) := by
  rw [rsum_congr fun i hi => area_levels (F.con i hi) (hH i) (h1 i) (h2 i), rsum_swap]
  refine rsum_congr fun k _ => ?_
  rw [rsum_mulk]
  congr 1
  have e2 : (fun y => dsum (fam N P y m)) = fun y => rsum m fun i => dsum (cl (P i) y (N i)) := by funext y; exact fam_dsum N P y m
  rw [e2, q3_rsum]
  refine rsum_congr fun i _ => ?_
  have e3 : (fun y => dsum (cl (P i) y (N i))) = fun y => rsum (N i) fun j => (dir (P i j) (P i (j + 1)) y : Rat) * X (P i j) (P i (j + 1)) y := by funext y; exact cl_dsum (P i) y (N i)
  rw [e3, q3_rsum, cl_dsum]
  exact (rsum_congr fun j _ => q3_lin (hH i j) (hH i (j + 1)) (lo + k)).symm
 have em : rsum m (fun i => momh (N i) (P i)) = rsum K fun k => 6 * q3 (fun y => y * dsum (fam N P y m)) (lo + k) := by
  rw [rsum_congr fun i hi => momh_levels (F.con i hi) (hH i) (h1 i) (h2 i), rsum_swap]
  refine rsum_congr fun k _ => ?_
  rw [rsum_mulk]
  congr 1
  have e2 : (fun y => y * dsum (fam N P y m)) = fun y => rsum m fun i => y * dsum (cl (P i) y (N i)) := by funext y; rw [fam_dsum, rsum_mulk]
  rw [e2, q3_rsum]
 have nn : ∀ (z : Int) (r : Rat), 0 < r → r < 1 → 0 ≤ dsum (fam N P (lvr r z) m) := fun z r r0 r1 => (dsum_pos _ _ (Nat.le_refl _) (F.alt (gen z r r0 r1)) (F.total (gen z r r0 r1))).1
 rw [ea, em, ← rsum_mulk, ← rsum_mulk]
 have cz : ∀ k : Nat, ((lo + k : Int) : Rat) = (lo : Rat) + (k : Rat) := fun k => by rw [Rat.intCast_add]; rfl
 constructor
 ·refine rsum_le K fun k _ => ?_
  have : q3 (fun y => (lo : Rat) * dsum (fam N P y m)) (lo + k) ≤ q3 (fun y => y * dsum (fam N P y m)) (lo + k) := q3_le fun r r0 r1 => by
   have h := nn (lo + k) r r0 r1
   have hk : (lo : Rat) ≤ ((lo + k : Int) : Rat) := Rat.intCast_le_intCast.2 (by omega)
   have h3 : (0 : Rat) ≤ lvr r (lo + k) - lo := by unfold lvr; grind
   have := Rat.mul_nonneg h3 h
   grind
  rw [q3_mul] at this
  grind
 ·refine rsum_le K fun k hk => ?_
  have : q3 (fun y => y * dsum (fam N P y m)) (lo + k) ≤ q3 (fun y => ((lo + K : Int) : Rat) * dsum (fam N P y m)) (lo + k) := q3_le fun r r0 r1 => by
   have h := nn (lo + k) r r0 r1
   have hk : ((lo + k + 1 : Int) : Rat) ≤ ((lo + K : Int) : Rat) := Rat.intCast_le_intCast.2 (by omega)
   rw [Rat.intCast_add] at hk
   have e1 : ((1 : Int) : Rat) = 1 := rfl
   rw [e1] at hk
   have h3 : (0 : Rat) ≤ ((lo + K : Int) : Rat) - lvr r (lo + k) := by unfold lvr; grind
   have := Rat.mul_nonneg h3 h
   grind
  rw [q3_mul] at this
  grind
def m6y (n : Nat) (p : Nat → I2) : Int := isum n fun j => ((p j).y + (p (j + 1)).y) * ((p j).x * (p (j + 1)).y - (p (j + 1)).x * (p j).y)
theorem momh_m6 {n : Nat} {p : Nat → I2} (per : ∀ i, p (i + n) = p i) (M : Int) : momh n (fun i => shp M (p i)) = ((M * M * m6y n p - M * m6 n p : Int) : Rat) := by
 have e : momh n (fun i => shp M (p i)) = ((isum n (fun j => (lvl M (p (j + 1)) - lvl M (p j)) * (2 * (p j).x * lvl M (p j) + (p j).x * lvl M (p (j + 1)) + (p (j + 1)).x * lvl M (p j) + 2 * (p (j + 1)).x * lvl M (p (j + 1)))) : Int) : Rat) := by
  rw [← rsum_cast]
  unfold momh
  refine rsum_congr fun j _ => ?_
  simp only [shp, Rat.intCast_mul, Rat.intCast_add, Rat.intCast_sub]
  rfl
 rw [e]
 congr 1
 have e1 : ∀ j, (lvl M (p (j + 1)) - lvl M (p j)) * (2 * (p j).x * lvl M (p j) + (p j).x * lvl M (p (j + 1)) + (p (j + 1)).x * lvl M (p j) + 2 * (p (j + 1)).x * lvl M (p (j + 1))) = (M * M * (((p j).y + (p (j + 1)).y) * ((p j).x * (p (j + 1)).y - (p (j + 1)).x * (p j).y)) + (-M) * (((p j).x + (p (j + 1)).x) * ((p j).x * (p (j + 1)).y - (p (j + 1)).x * (p j).y))) + ((fun i => 2 * M * M * ((p i).x * (p i).y * (p i).y) - 4 * M * ((p i).x * (p i).x * (p i).y) + 2 * ((p i).x * (p i).x * (p i).x)) (j + 1) - (fun i => 2 * M * M * ((p i).x * (p i).y * (p i).y) - 4 * M * ((p i).x * (p i).x * (p i).y) + 2 * ((p i).x * (p i).x * (p i).x)) j) := fun j => by
  unfold lvl
  grind
 have tel := isum_tel n fun i => 2 * M * M * ((p i).x * (p i).y * (p i).y) - 4 * M * ((p i).x * (p i).x * (p i).y) + 2 * ((p i).x * (p i).x * (p i).x)
 have h0 := per 0
 rw [Nat.zero_add] at h0
 simp only [h0, Int.sub_self] at tel
 rw [isum_congr fun j _ => e1 j, isum_add]
 simp only
 rw [tel, isum_add, isum_mul, isum_mul]
 unfold m6y m6
 rw [Int.neg_mul]
 omega
theorem Holes.centreY {N : Int} {m : Nat} {n : Nat → Nat} {p : Nat → Nat → I2} (h : Holes N m n p) :
  -(3 * (N + 1) * isum m (fun i => a2 (n i) (p i))) ≤ isum m (fun i => m6y (n i) (p i)) ∧ isum m (fun i => m6y (n i) (p i)) ≤ 3 * (N + 1) * isum m fun i => a2 (n i) (p i) := by
 have hN : 0 ≤ N := by have := h.bd 0 0; unfold Bx at this; omega
 have hl : ∀ i s, -(2 * N + 1) * N - N ≤ lvl (2 * N + 1) (p i s) ∧ lvl (2 * N + 1) (p i s) ≤ (2 * N + 1) * N + N := fun i s => by
  obtain ⟨h1, h2, h3, h4⟩ := h.bd i s
  have a1 := Int.mul_le_mul_of_nonneg_left h3 (show 0 ≤ 2 * N + 1 by omega)
  have a2 := Int.mul_le_mul_of_nonneg_left h4 (show 0 ≤ 2 * N + 1 by omega)
  have a3 : (2 * N + 1) * -N = -(2 * N + 1) * N := by grind
  unfold lvl
  omega
 have nn := Int.mul_nonneg (show 0 ≤ 2 * N + 1 by omega) hN
 have hp := h.family.centreY (H := fun i s => lvl (2 * N + 1) (p i s)) (fun _ _ => rfl) (lo := -(2 * N + 1) * N - N) (K := (2 * ((2 * N + 1) * N + N)).toNat) (fun i s => (hl i s).1) (fun i s => by
  have := hl i s
  have e : -(2 * N + 1) * N = -((2 * N + 1) * N) := Int.neg_mul _ _
  generalize (2 * N + 1) * N = z at *
  omega)
 have hk : -(2 * N + 1) * N - N + (((2 * ((2 * N + 1) * N + N)).toNat : Nat) : Int) = (2 * N + 1) * N + N := by
  have e : -(2 * N + 1) * N = -((2 * N + 1) * N) := Int.neg_mul _ _
  generalize (2 * N + 1) * N = z at *
  omega
 rw [hk] at hp
 have hc := h.centre (L := -N) (U := N) (fun s => (h.bd 0 s).1) (fun s => (h.bd 0 s).2.1)
 have ha := h.area
 rw [rsum_congr fun i hi => area_a2 (h.simp i hi).per (2 * N + 1), rsum_congr fun i hi => momh_m6 (h.simp i hi).per (2 * N + 1), rsum_cast m fun i => (2 * N + 1) * a2 (n i) (p i), rsum_cast m fun i => (2 * N + 1) * (2 * N + 1) * m6y (n i) (p i) - (2 * N + 1) * m6 (n i) (p i), isum_mul, isum_sub, isum_mul, isum_mul] at hp
 obtain ⟨h1, h2⟩ := hp
 generalize isum m (fun i => a2 (n i) (p i)) = A at *
 generalize isum m (fun i => m6 (n i) (p i)) = B at *
 generalize isum m (fun i => m6y (n i) (p i)) = C at *
 have c1 : ((3 * (-(2 * N + 1) * N - N) * ((2 * N + 1) * A) : Int) : Rat) ≤ (((2 * N + 1) * (2 * N + 1) * C - (2 * N + 1) * B : Int) : Rat) := by
  have e : ((3 * (-(2 * N + 1) * N - N) * ((2 * N + 1) * A) : Int) : Rat) = 3 * ((-(2 * N + 1) * N - N : Int) : Rat) * (((2 * N + 1) * A : Int) : Rat) := by
   rw [Rat.intCast_mul, Rat.intCast_mul]
   rfl
  rw [e]; exact h1
 have c2 : (((2 * N + 1) * (2 * N + 1) * C - (2 * N + 1) * B : Int) : Rat) ≤ ((3 * ((2 * N + 1) * N + N) * ((2 * N + 1) * A) : Int) : Rat) := by
  have e : ((3 * ((2 * N + 1) * N + N) * ((2 * N + 1) * A) : Int) : Rat) = 3 * (((2 * N + 1) * N + N : Int) : Rat) * (((2 * N + 1) * A : Int) : Rat) := by
   rw [Rat.intCast_mul, Rat.intCast_mul]
   rfl
  rw [e]; exact h2
 have c1 := Rat.intCast_le_intCast.1 c1
 have c2 := Rat.intCast_le_intCast.1 c2
 obtain ⟨b1, b2⟩ := hc
 have hM : 0 < 2 * N + 1 := by omega
 -- M (M C) <= M (3 (M N + N) A + B), B <= 3 N A
 have na := Int.mul_nonneg hN (show 0 ≤ A by omega)
 have s1 : (2 * N + 1) * (3 * (-(2 * N + 1) * N - N) * A) ≤ (2 * N + 1) * ((2 * N + 1) * C - B) := by
  have e1 : (2 * N + 1) * (3 * (-(2 * N + 1) * N - N) * A) = 3 * (-(2 * N + 1) * N - N) * ((2 * N + 1) * A) := by grind
  have e2 : (2 * N + 1) * ((2 * N + 1) * C - B) = (2 * N + 1) * (2 * N + 1) * C - (2 * N + 1) * B := by grind
  omega
 have s2 : (2 * N + 1) * ((2 * N + 1) * C - B) ≤ (2 * N + 1) * (3 * ((2 * N + 1) * N + N) * A) := by
  have e1 : (2 * N + 1) * (3 * ((2 * N + 1) * N + N) * A) = 3 * ((2 * N + 1) * N + N) * ((2 * N + 1) * A) := by grind
  have e2 : (2 * N + 1) * ((2 * N + 1) * C - B) = (2 * N + 1) * (2 * N + 1) * C - (2 * N + 1) * B := by grind
  omega
 have s1 := Int.le_of_mul_le_mul_left s1 hM
 have s2 := Int.le_of_mul_le_mul_left s2 hM
 constructor
 ·refine Int.le_of_mul_le_mul_left (a := 2 * N + 1) ?_ hM
  have e3 : (2 * N + 1) * -(3 * (N + 1) * A) = 3 * (-(2 * N + 1) * N - N) * A + 3 * -N * A - 3 * A := by grind
  omega
 ·refine Int.le_of_mul_le_mul_left (a := 2 * N + 1) ?_ hM
  have e3 : (2 * N + 1) * (3 * (N + 1) * A) = 3 * ((2 * N + 1) * N + N) * A + 3 * N * A + 3 * A := by grind
  omega
end Go.Proofs.YtngginofamlkkaaGreatDoor.PlaneG

noncomputable section
namespace Go.Proofs.YtngginofamlkkaaGreatDoor
open Go Go.RowKit
set_option maxRecDepth 100000
set_option maxHeartbeats 8000000
structure ShapeOk (o : List Pt) (hs : List (List Pt)) : Prop where
 few : hs.length ≤ 8
 out : polyCheck o = 0
 pos : 0 < areaP o
 hole : ∀ h ∈ hs, polyCheck h = 0 ∧ areaP h < 0 ∧ withinC h o
 apt : hs.Pairwise fun a b => apartC b a
theorem firstErr_zero {f : Nat → Int} : ∀ {n : Nat}, firstErr f n = 0 ↔ ∀ i, i < n → f i = 0
 | 0 => ⟨fun _ i hi => by omega, fun _ => rfl⟩
 | n + 1 => by
  unfold firstErr
  have ih := firstErr_zero (f := f) (n := n)
  constructor
  ·intro h
   split at h
   ·exact absurd h (by assumption)
   ·rename_i h0
    have h0 : firstErr f n = 0 := by omega
    intro i hi
    rcases Nat.lt_or_ge i n with h' | h'
    ·exact ih.1 h0 i h'
    ·rw [show i = n by omega]; exact h
  ·intro h
   rw [if_neg (by rw [ih.2 fun i hi => h i (by omega)]; exact fun h => h rfl)]
   exact h n (by omega)
theorem getD_at {α : Type} {l : List α} {d : α} {i : Nat} (h : i < l.length) : l.getD i d = l[i] := by
 rw [List.getD_eq_getElem?_getD, List.getElem?_eq_getElem h]; rfl
theorem holeErr_zero {o : List Pt} {hs : List (List Pt)} {i : Nat} : holeErr o hs i = 0 ↔ polyCheck (hs.getD i []) = 0 ∧ areaP (hs.getD i []) < 0 ∧ withinC (hs.getD i []) o ∧ ∀ k, k < i → apartC (hs.getD i []) (hs.getD k []) := by
 unfold holeErr
 by_cases h0 : polyCheck (hs.getD i []) = 0
 ·have hn : ¬ (polyCheck (hs.getD i []) ≠ 0) := fun h => h h0
  have ha : area2P (hs.getD i []) = areaP (hs.getD i []) := by unfold area2P; rw [if_pos h0]
  rw [if_neg hn, ha]
  constructor
  ·intro h
   split at h
   ·cases h
   rename_i hh
   refine ⟨h0, ?_, ?_, fun k hk => ?_⟩
   ·rcases Int.lt_or_le (areaP (hs.getD i [])) 0 with h1 | h1
    ·exact h1
    ·exact absurd (.inl h1) hh
   ·exact Decidable.byContradiction fun h1 => hh (.inr (.inl h1))
   ·exact Decidable.byContradiction fun h1 => hh (.inr (.inr ⟨k, hk, h1⟩))
  ·rintro ⟨_, h1, h2, h3⟩
   rw [if_neg]
   rintro (h | h | ⟨k, hk, h⟩)
   ·omega
   ·exact h h2
   ·exact h (h3 k hk)
 ·rw [if_pos h0]
  exact ⟨fun h => absurd h h0, fun h => absurd h.1 h0⟩
theorem shapeCheck_zero (o : List Pt) (hs : List (List Pt)) : shapeCheck o hs = 0 ↔ ShapeOk o hs := by
 unfold shapeCheck
 constructor
 ·intro h
  split at h
  ·cases h
  split at h
  ·exact absurd h (by assumption)
  split at h
  ·cases h
  rename_i h1 h2 h3
  have ho : polyCheck o = 0 := Decidable.byContradiction fun h => h2 h
  have ha : area2P o = areaP o := by unfold area2P; rw [if_pos ho]
  rw [ha] at h3
  have hz := firstErr_zero.1 h
  refine ⟨by omega, ho, by omega, fun c hc => ?_, ?_⟩
  ·obtain ⟨i, hi, rfl⟩ := List.mem_iff_getElem.1 hc
   obtain ⟨g1, g2, g3, _⟩ := holeErr_zero.1 (hz i hi)
   rw [getD_at hi] at g1 g2 g3
   exact ⟨g1, g2, g3⟩
  ·rw [List.pairwise_iff_getElem]
   intro i j hi hj hij
   have := (holeErr_zero.1 (hz j hj)).2.2.2 i hij
   rwa [getD_at hi, getD_at hj] at this
 ·rintro ⟨h1, h2, h3, h4, h5⟩
  have ha : area2P o = areaP o := by unfold area2P; rw [if_pos h2]
  rw [if_neg (by omega), if_neg (fun h => h h2), ha, if_neg (by omega)]
  refine firstErr_zero.2 fun i hi => holeErr_zero.2 ?_
  rw [getD_at hi]
  obtain ⟨g1, g2, g3⟩ := h4 _ (List.getElem_mem hi)
  refine ⟨g1, g2, g3, fun k hk => ?_⟩
  rw [getD_at (show k < hs.length by omega)]
  exact List.pairwise_iff_getElem.1 h5 k i (by omega) hi hk
def ctr (o : List Pt) (hs : List (List Pt)) : Nat → List Pt
 | 0 => o
 | i + 1 => hs.getD i []
theorem no_meet {p q : List Pt} (hp : 0 < p.length) (hq : 0 < q.length) (hx : ¬ crossC p q) (s t : Nat) : ¬ meetP (cyc p s) (cyc p (s + 1)) (cyc q t) (cyc q (t + 1)) := by
 intro hm
 refine hx ⟨s % p.length, Nat.mod_lt _ hp, t % q.length, Nat.mod_lt _ hq, ?_⟩
 rw [cyc_mod, cyc_mod1, cyc_mod, cyc_mod1]
 exact hm
theorem odd_of_where {o : List Pt} {c : Pt} (ho : polyCheck o = 0) (hc : ¬ farP c) (hn : ¬ ∃ k, k < o.length ∧ onEdge o c k) : (whereP o c = 1 → PlaneG.oddI o.length (fun i => pl (cyc o i)) (pl c) = true) ∧ (whereP o c < 0 → PlaneG.oddI o.length (fun i => pl (cyc o i)) (pl c) = false) := by
 have e : whereP o c = if oddTo (rhitP o c) o.length then 1 else -1 := by
  rw [where_eq]
  unfold rwhereP
  rw [if_neg (by rw [← polyCheck_eq]; rintro (h | h); exact h ho; exact hc h), if_neg hn]
 rw [e, oddTo_odd]
 cases PlaneG.oddI o.length (fun i => pl (cyc o i)) (pl c) <;> simp
theorem apartC_symm {p q : List Pt} (h : apartC p q) : apartC q p := ⟨fun hx => h.1 (crossC_symm hx), h.2.2, h.2.1⟩
theorem ShapeOk.holes {o : List Pt} {hs : List (List Pt)} (h : ShapeOk o hs) : PlaneG.Holes 32768 (hs.length + 1) (fun i => (ctr o hs i).length) fun i s => pl (cyc (ctr o hs i) s) := by
 have ok : ∀ i, i < hs.length + 1 → polyCheck (ctr o hs i) = 0 := fun i hi => by
  match i with
  | 0 => exact h.out
  | i + 1 =>
   show polyCheck (hs.getD i []) = 0
   rw [getD_at (by omega)]
   exact (h.hole _ (List.getElem_mem _)).1
 have len : ∀ i, i < hs.length + 1 → 3 ≤ (ctr o hs i).length := fun i hi => (check_zero (ok i hi)).1
 have apt : ∀ i k, i < hs.length → k < hs.length → i ≠ k → apartC (hs.getD i []) (hs.getD k []) := fun i k hi hk hne => by
  rw [getD_at hi, getD_at hk]
  rcases Nat.lt_or_ge i k with h1 | h1
  ·exact apartC_symm (List.pairwise_iff_getElem.1 h.apt i k hi hk h1)
  ·exact List.pairwise_iff_getElem.1 h.apt k i hk hi (by omega)
 have inn : ∀ i, i < hs.length → withinC (hs.getD i []) o := fun i hi => by
  rw [getD_at hi]
  exact (h.hole _ (List.getElem_mem _)).2.2
 have off : ∀ i k, i < hs.length + 1 → k < hs.length + 1 → i ≠ k → ¬ crossC (ctr o hs i) (ctr o hs k) := fun i k hi hk hne => by
  match i, k with
  | 0, 0 => exact absurd rfl hne
  | 0, k + 1 => exact fun hx => (inn k (by omega)).1 (crossC_symm hx)
  | i + 1, 0 => exact (inn i (by omega)).1
  | i + 1, k + 1 => exact (apt i k (by omega) (by omega) (by omega)).1
 have notfar : ∀ i, i < hs.length + 1 → ∀ s, ¬ farP (cyc (ctr o hs i) s) := fun i hi s => (check_zero (ok i hi)).2.2.1 _ (cyc_mem (by have := len i hi; omega) s)
 have noton : ∀ i k, i < hs.length + 1 → k < hs.length + 1 → i ≠ k → ∀ s, ¬ ∃ t, t < (ctr o hs k).length ∧ onEdge (ctr o hs k) (cyc (ctr o hs i) s) t := fun i k hi hk hne s => by
  rintro ⟨t, ht, ho⟩
  exact no_meet (by have := len i hi; omega) (by have := len k hk; omega) (off i k hi hk hne) s t (.inr (.inr (.inl ho)))
 refine ⟨by omega, fun i hi => simp_of (len i hi) (check_zero (ok i hi)).2.2.2, fun i s => ?_, fun i k hi hk hne s t => ?_, ?_, fun i h0 hi => ?_, fun i h0 hi s => ?_, fun i k h0 hi k0 hk hne s => ?_⟩
 ·by_cases hi : i < hs.length + 1
  ·have := notfar i hi s
   unfold farP at this
   show -32768 ≤ (cyc (ctr o hs i) s).x ∧ (cyc (ctr o hs i) s).x ≤ 32768 ∧ -32768 ≤ (cyc (ctr o hs i) s).y ∧ (cyc (ctr o hs i) s).y ≤ 32768
   omega
  ·have e : ctr o hs i = [] := by
    match i with
    | 0 => omega
    | i + 1 =>
     show hs.getD i [] = []
     rw [List.getD_eq_getElem?_getD, List.getElem?_eq_none (by omega)]; rfl
   show PlaneG.Bx 32768 (pl (cyc (ctr o hs i) s))
   rw [e]
   unfold cyc cor PlaneG.Bx pl
   simp
 ·exact no_meet (by have := len i hi; omega) (by have := len k hk; omega) (off i k hi hk hne) s t
 ·have := h.pos
  unfold areaP at this
  rw [sumTo_isum] at this
  exact this
 ·match i with
  | i + 1 =>
   have := (h.hole (hs.getD i []) (by rw [getD_at (by omega)]; exact List.getElem_mem _)).2.1
   unfold areaP at this
   rw [sumTo_isum] at this
   exact this
 ·match i with
  | i + 1 =>
   refine (odd_of_where h.out (notfar _ hi s) (noton (i + 1) 0 hi (by omega) (by omega) s)).1 ((inn i (by omega)).2 _ (cyc_mem ?_ s))
   have := len (i + 1) hi
   show 0 < (hs.getD i []).length
   exact (show 3 ≤ (hs.getD i []).length from this) |> fun h => by omega
 ·match i, k with
  | i + 1, k + 1 =>
   refine (odd_of_where (ok _ hk) (notfar _ hi s) (noton (i + 1) (k + 1) hi hk hne s)).2 ?_
   have ha := (apt i k (by omega) (by omega) (by omega))
   have hl := len (i + 1) hi
   have e0 : cyc (ctr o hs (i + 1)) 0 = cor (hs.getD i []) 0 := cyc_lt (by omega)
   have := where_all (ok _ hi) (ok _ hk) (off _ _ hi hk hne) (Nat.mod_lt s (show 0 < (ctr o hs (i + 1)).length by omega))
   rw [cyc_mod, e0] at this
   show whereP (ctr o hs (k + 1)) (cyc (ctr o hs (i + 1)) s) < 0
   rw [this]
   exact ha.2.2
theorem isum_list {α : Type} (d : α) (g : α → Int) : ∀ (l : List α), PlaneG.isum l.length (fun i => g (l.getD i d)) = (l.map g).sum := fun l => by
 induction l with
 | nil => rfl
 | cons a l ih =>
  rw [List.length_cons, PlaneG.isum_head, List.map_cons, List.sum_cons, ← ih]
  rfl
theorem isum_ctr (o : List Pt) (hs : List (List Pt)) (g : List Pt → Int) : PlaneG.isum (hs.length + 1) (fun i => g (ctr o hs i)) = g o + (hs.map g).sum := by
 rw [PlaneG.isum_head, ← isum_list []]
 rfl
theorem areaP_a2 (l : List Pt) : areaP l = PlaneG.a2 l.length fun i => pl (cyc l i) := by
 unfold areaP
 rw [sumTo_isum]
 rfl
theorem momX_m6 (l : List Pt) : sumTo (momX l) l.length = PlaneG.m6 l.length fun i => pl (cyc l i) := by
 rw [sumTo_isum]
 rfl
theorem ShapeOk.area {o : List Pt} {hs : List (List Pt)} (h : ShapeOk o hs) : 0 < areaP o + (hs.map areaP).sum := by
 have := h.holes.area
 rw [← isum_ctr o hs areaP]
 simpa only [areaP_a2] using this
theorem ShapeOk.centre {o : List Pt} {hs : List (List Pt)} (h : ShapeOk o hs) {L U : Int} (hb : ∀ c ∈ o, L ≤ c.x ∧ c.x ≤ U) :
  3 * L * (areaP o + (hs.map areaP).sum) ≤ sumTo (momX o) o.length + (hs.map fun l => sumTo (momX l) l.length).sum ∧ sumTo (momX o) o.length + (hs.map fun l => sumTo (momX l) l.length).sum ≤ 3 * U * (areaP o + (hs.map areaP).sum) := by
 have h3 := (check_zero h.out).1
 have hc := fun s => hb _ (cyc_mem (l := o) (by omega) s)
 have := h.holes.centre (L := L) (U := U) (fun s => (hc s).1) (fun s => (hc s).2)
 rw [← isum_ctr o hs areaP, ← isum_ctr o hs fun l => sumTo (momX l) l.length]
 simpa only [areaP_a2, momX_m6] using this
theorem momY_m6 (l : List Pt) : sumTo (momY l) l.length = PlaneG.m6y l.length fun i => pl (cyc l i) := by
 rw [sumTo_isum]
 rfl
theorem ShapeOk.centreY {o : List Pt} {hs : List (List Pt)} (h : ShapeOk o hs) :
  -(3 * (32768 + 1) * (areaP o + (hs.map areaP).sum)) ≤ sumTo (momY o) o.length + (hs.map fun l => sumTo (momY l) l.length).sum ∧ sumTo (momY o) o.length + (hs.map fun l => sumTo (momY l) l.length).sum ≤ 3 * (32768 + 1) * (areaP o + (hs.map areaP).sum) := by
 have := h.holes.centreY
 rw [← isum_ctr o hs areaP, ← isum_ctr o hs fun l => sumTo (momY l) l.length]
 simpa only [areaP_a2, momY_m6] using this
def c_rchk (args : List Value) (Post : Value → Prop) : Prop := ∃ (o : List Pt) (hs : List (List Pt)), args = [shapeV o hs] ∧ Short o ∧ Short hs ∧ (∀ h ∈ hs, Short h) ∧ Post (.int .i64 (shapeCheck o hs))
def vcRc : VCall := tabCall [⟨120, c_pchk⟩, ⟨121, c_par2⟩, ⟨122, c_within⟩, ⟨123, c_apart⟩] noCall
abbrev ltRc : List (Nat × List Nat) := [(9, [1, 24, 25, 26]), (17, [1, 5, 24, 25, 26, 49, 50, 51])]
theorem e_rchk (n m : Nat) (A B : Array Value) (H : HT) (Post : PV) : vcP Tryz.prog vcRc 51 ltRc [.agg #[tree 2 n A, tree 1 m B]] H Post = (T4 (T2 (pIf (decide ((↑m : Int) > 8)) (T2 (Post (vi 12))) (T2 (∃ (l : List Pt), eqL [tree 2 n A] [trPt l] ∧ Short l ∧ T2 (True ∧ pIf (!decide (polyCheck l = 0)) (T2 (True ∧ Post (vi (polyCheck l)))) (T2 (∃ (l : List Pt), eqL [tree 2 n A] [trPt l] ∧ Short l ∧ True ∧ pIf (decide (area2P l ≤ 0)) (T2 (Post (vi 17))) (T4 (True ∧ (True ∧ True) ∧ H (lpC Tryz.prog 51 9) (lpK Tryz.prog 51 9) (stV [(1, some (pt 0)), (24, some (tree 1 m B)), (25, some (vi (↑m : Int))), (26, some (vi 0))] [(0, some (AObj.cells [tree 2 n A, tree 1 m B] true))] 1))))))))))) := by kernel_rfl
theorem l_rchk (n m : Nat) (k : Int) (A B : Array Value) (H : HT) (Post : PV) : vcLP Tryz.prog vcRc 51 [.agg #[tree 2 n A, tree 1 m B]] ltRc 9 (stV [(1, some (.pointer (some ⟨0, 0, none⟩))), (24, some (tree 1 m B)), (25, some (.int .i64 m)), (26, some (.int .i64 k))] [(0, some (.cells [tree 2 n A, tree 1 m B] true))] 1) H Post = (let q1 := cellAt B (Int.toNat k) 0; True ∧ pIf (decide (k < (↑m : Int))) (True ∧ (0 ≤ k ∧ k < (↑m : Int)) ∧ cellAt B (Int.toNat k) 0 = tree 2 (toN q1) (toE q1) ∧ T2 (True ∧ ∃ (l : List Pt), eqL [tree 2 (toN q1) (toE q1)] [trPt l] ∧ Short l ∧ T2 (True ∧ pIf (!decide (polyCheck l = 0)) (T2 (True ∧ Post (vi (polyCheck l)))) (True ∧ ∃ (l : List Pt), eqL [tree 2 (toN q1) (toE q1)] [trPt l] ∧ Short l ∧ True ∧ pIf (decide (area2P l ≥ 0)) (T4 (Post (vi 17))) (T4 (∃ (h : List Pt), ∃ (o : List Pt), eqL [tree 2 (toN q1) (toE q1), tree 2 n A] [trPt h, trPt o] ∧ List.length h ≤ 32 ∧ List.length o ≤ 32 ∧ (∀ (x : Pt), x ∈ h → Nr x) ∧ (∀ (x : Pt), x ∈ o → Nr x) ∧ pIf (decide (withinC h o)) (T4 (True ∧ (0 ≤ k ∧ True ∧ 0 ≤ Int.toNat k ∧ Int.toNat k ≤ m) ∧ T2 (True ∧ (True ∧ True) ∧ H (lpC Tryz.prog 51 17) (lpK Tryz.prog 51 17) (stV [(1, some (pt 0)), (5, some (tree 2 (toN q1) (toE q1))), (24, some (tree 1 m B)), (25, some (vi (↑m : Int))), (26, some (vi k)), (49, some (tree 1 (Int.toNat k - 0) (Array.extract B 0 (Int.toNat k)))), (50, some (vi (↑(Int.toNat k - 0) : Int))), (51, some (vi 0))] [(0, some (AObj.cells [tree 2 n A, tree 1 m B] true))] 1)))) (T4 (Post (vi 17))))))))) (T2 (Post (vi 0)))) := by kernel_rfl
theorem m_rchk (n m p r : Nat) (k j : Int) (A B C D : Array Value) (H : HT) (Post : PV) : vcLP Tryz.prog vcRc 51 [.agg #[tree 2 n A, tree 1 m B]] ltRc 17 (stV [(1, some (.pointer (some ⟨0, 0, none⟩))), (5, some (tree 2 p C)), (24, some (tree 1 m B)), (25, some (.int .i64 m)), (26, some (.int .i64 k)), (49, some (tree 1 r D)), (50, some (.int .i64 r)), (51, some (.int .i64 j))] [(0, some (.cells [tree 2 n A, tree 1 m B] true))] 1) H Post = (True ∧ pIf (decide (j < (↑r : Int))) ((0 ≤ j ∧ j < (↑r : Int)) ∧ cellAt D (Int.toNat j) 0 = tree 2 (toN (cellAt D (Int.toNat j) 0)) (toE (cellAt D (Int.toNat j) 0)) ∧ T2 (True ∧ ∃ (p_1 : List Pt), ∃ (q : List Pt), eqL [tree 2 p C, tree 2 (toN (cellAt D (Int.toNat j) 0)) (toE (cellAt D (Int.toNat j) 0))] [trPt p_1, trPt q] ∧ 0 < List.length p_1 ∧ 0 < List.length q ∧ List.length p_1 ≤ 32 ∧ List.length q ≤ 32 ∧ (∀ (x : Pt), x ∈ p_1 → Nr x) ∧ (∀ (x : Pt), x ∈ q → Nr x) ∧ pIf (decide (apartC p_1 q)) (T4 ((True ∧ True) ∧ H (lpC Tryz.prog 51 17) (lpK Tryz.prog 51 17) (stV [(1, some (pt 0)), (5, some (tree 2 p C)), (24, some (tree 1 m B)), (25, some (vi (↑m : Int))), (26, some (vi k)), (49, some (tree 1 r D)), (50, some (vi (↑r : Int))), (51, some (vi (IntKind.wrap IntKind.i64 (j + 1))))] [(0, some (AObj.cells [tree 2 n A, tree 1 m B] true))] 1))) (T2 (True ∧ Post (vi 17))))) (T2 (True ∧ (True ∧ True) ∧ H (lpC Tryz.prog 51 9) (lpK Tryz.prog 51 9) (stV [(1, some (pt 0)), (24, some (tree 1 m B)), (25, some (vi (↑m : Int))), (26, some (vi (IntKind.wrap IntKind.i64 (k + 1))))] [(0, some (AObj.cells [tree 2 n A, tree 1 m B] true))] 1)))) := by kernel_rfl
def c_cont (args : List Value) (Post : Value → Prop) : Prop := ∃ (o : List Pt) (hs : List (List Pt)), args = [shapeV o hs] ∧ hs.length ≤ 8 ∧ Post (trPts (o :: hs))
theorem e_cont (n m : Nat) (A B : Array Value) (H : HT) (Post : PV) : vcP Tryz.prog noCall 139 [] [.agg #[tree 2 n A, tree 1 m B]] H Post = (T8 (pIf (Nat.beq m 0) (true = true ∧ True ∧ (1 ≤ 1 ∧ NLs [tree 2 n A]) ∧ Post (tree 1 1 #[tree 2 n A])) (1 + m ≤ 33554432 ∧ List.all (List.flatMap (fun (u : Value) => Array.toList (Value.cells u)) (Array.toList B)) single = true ∧ List.length (List.flatMap (fun (u : Value) => Array.toList (Value.cells u)) (Array.toList B)) = m * 1 ∧ 1 = 1 ∧ True ∧ (0 + (1 + m) * 1 ≤ List.length ([(tree 2 n A)] ++ List.flatMap (fun (u : Value) => Array.toList (Value.cells u)) (Array.toList B)) ∧ NLs (tree 2 n A :: (List.flatMap (fun (u : Value) => Array.toList (Value.cells u)) (Array.toList B)))) ∧ Post (tree 1 (1 + m) (chunks 1 (1 + m) (List.drop 0 ([(tree 2 n A)] ++ List.flatMap (fun (u : Value) => Array.toList (Value.cells u)) (Array.toList B)))))))) := by kernel_rfl
def vcRa : VCall := tabCall [⟨51, c_rchk⟩, ⟨139, c_cont⟩, ⟨121, c_par2⟩, ⟨141, c_pmom⟩] noCall
theorem e_rar2 (n m : Nat) (A B : Array Value) (H : HT) (Post : PV) : vcP Tryz.prog vcRa 64 [(5, [3, 10, 11, 12])] [.agg #[tree 2 n A, tree 1 m B]] H Post = (T2 (True ∧ ∃ (o : List Pt), ∃ (hs : List (List Pt)), eqL [Value.agg #[tree 2 n A, tree 1 m B]] [shapeV o hs] ∧ Short o ∧ Short hs ∧ (∀ (h : List Pt), h ∈ hs → Short h) ∧ True ∧ pIf (!decide (shapeCheck o hs = 0)) (T2 (Post (vi 0))) (T2 (∃ (o : List Pt), ∃ (hs : List (List Pt)), eqL [Value.agg #[tree 2 n A, tree 1 m B]] [shapeV o hs] ∧ List.length hs ≤ 8 ∧ T4 (H (lpC Tryz.prog 64 5) (lpK Tryz.prog 64 5) (stV [(3, some (vi 0)), (10, some (tree 1 (List.length (o :: hs)) (encL (o :: hs)))), (11, some (vi (↑(List.length (o :: hs)) : Int))), (12, some (vi 0))] [] 0)))))) := by kernel_rfl
theorem l_rar2 (n m q : Nat) (k s : Int) (A B C : Array Value) (H : HT) (Post : PV) : vcLP Tryz.prog vcRa 64 [.agg #[tree 2 n A, tree 1 m B]] [(5, [3, 10, 11, 12])] 5 (stV [(3, some (.int .i64 s)), (10, some (tree 1 q C)), (11, some (.int .i64 q)), (12, some (.int .i64 k))] [] 0) H Post = (True ∧ pIf (decide (k < (↑q : Int))) ((0 ≤ k ∧ k < (↑q : Int)) ∧ cellAt C (Int.toNat k) 0 = tree 2 (toN (cellAt C (Int.toNat k) 0)) (toE (cellAt C (Int.toNat k) 0)) ∧ T2 (True ∧ ∃ (l : List Pt), eqL [tree 2 (toN (cellAt C (Int.toNat k) 0)) (toE (cellAt C (Int.toNat k) 0))] [trPt l] ∧ Short l ∧ T4 (T2 (H (lpC Tryz.prog 64 5) (lpK Tryz.prog 64 5) (stV [(3, some (vi (IntKind.wrap IntKind.i64 (s + area2P l)))), (10, some (tree 1 q C)), (11, some (vi (↑q : Int))), (12, some (vi (IntKind.wrap IntKind.i64 (k + 1))))] [] 0))))) (T2 (True ∧ Post (vi s)))) := by kernel_rfl
theorem e_rmom (n m : Nat) (A B : Array Value) (H : HT) (Post : PV) : vcP Tryz.prog vcRa 68 [(5, [4, 5, 14, 15, 16])] [.agg #[tree 2 n A, tree 1 m B]] H Post = (T4 (∃ (o : List Pt), ∃ (hs : List (List Pt)), eqL [Value.agg #[tree 2 n A, tree 1 m B]] [shapeV o hs] ∧ Short o ∧ Short hs ∧ (∀ (h : List Pt), h ∈ hs → Short h) ∧ True ∧ pIf (!decide (shapeCheck o hs = 0)) (T2 ((T2 (True)) ∧ Post (Value.tuple #[vi 0, vi 0]))) (T2 (True ∧ ∃ (o : List Pt), ∃ (hs : List (List Pt)), eqL [Value.agg #[tree 2 n A, tree 1 m B]] [shapeV o hs] ∧ List.length hs ≤ 8 ∧ T4 (H (lpC Tryz.prog 68 5) (lpK Tryz.prog 68 5) (stV [(4, some (vi 0)), (5, some (vi 0)), (14, some (tree 1 (List.length (o :: hs)) (encL (o :: hs)))), (15, some (vi (↑(List.length (o :: hs)) : Int))), (16, some (vi 0))] [] 0)))))) := by kernel_rfl
theorem l_rmom (n m q : Nat) (k s t : Int) (A B C : Array Value) (H : HT) (Post : PV) : vcLP Tryz.prog vcRa 68 [.agg #[tree 2 n A, tree 1 m B]] [(5, [4, 5, 14, 15, 16])] 5 (stV [(4, some (.int .i64 s)), (5, some (.int .i64 t)), (14, some (tree 1 q C)), (15, some (.int .i64 q)), (16, some (.int .i64 k))] [] 0) H Post = (True ∧ pIf (decide (k < (↑q : Int))) ((0 ≤ k ∧ k < (↑q : Int)) ∧ cellAt C (Int.toNat k) 0 = tree 2 (toN (cellAt C (Int.toNat k) 0)) (toE (cellAt C (Int.toNat k) 0)) ∧ T2 (∃ (l : List Pt), eqL [tree 2 (toN (cellAt C (Int.toNat k) 0)) (toE (cellAt C (Int.toNat k) 0))] [trPt l] ∧ Short l ∧ T16 (True ∧ H (lpC Tryz.prog 68 5) (lpK Tryz.prog 68 5) (stV [(4, some (vi (IntKind.wrap IntKind.i64 (s + mom6X l)))), (5, some (vi (IntKind.wrap IntKind.i64 (t + mom6Y l)))), (14, some (tree 1 q C)), (15, some (vi (↑q : Int))), (16, some (vi (IntKind.wrap IntKind.i64 (k + 1))))] [] 0)))) (T4 ((T2 (True)) ∧ Post (Value.tuple #[vi s, vi t])))) := by kernel_rfl
theorem encL_take {α : Type} [Enc α] (l : List α) (k : Nat) : Array.extract (encL l) 0 k = encL (l.take k) := by
 unfold encL
 rw [List.extract_toArray, List.extract_eq_take_drop, Nat.sub_zero, List.drop_zero, List.map_take]
theorem vcRc_ok : VCallOk Tryz.prog vcRc := tabCall_ok (by
 intro e he
 simp only [List.mem_cons, List.not_mem_nil, or_false] at he
 rcases he with rfl | rfl | rfl | rfl
 ·exact ok_pchk
 ·exact ok_par2
 ·exact ok_within
 ·exact ok_apart) noCall_ok
theorem firstErr_at {f : Nat → Int} {k : Nat} : ∀ {n : Nat}, k < n → (∀ i, i < k → f i = 0) → f k ≠ 0 → firstErr f n = f k
 | 0, h, _, _ => by omega
 | n + 1, h, h0, hk => by
  unfold firstErr
  rcases Nat.lt_or_ge k n with h1 | h1
  ·rw [firstErr_at h1 h0 hk, if_pos hk]
  ·have : k = n := by omega
   subst this
   rw [if_neg (by rw [firstErr_zero.2 h0]; exact fun h => h rfl)]
theorem shapeCheck_at {o : List Pt} {hs : List (List Pt)} (h1 : ¬ 8 < hs.length) (h2 : polyCheck o = 0) (h3 : ¬ area2P o ≤ 0) : shapeCheck o hs = firstErr (holeErr o hs) hs.length := by
 unfold shapeCheck
 rw [if_neg h1, if_neg (fun h => h h2), if_neg h3]
theorem ok_rchk : EntOk Tryz.prog ⟨51, c_rchk⟩ := by
 rintro args Post ⟨o, hs, rfl, so, ss, sh, h⟩
 refine pure_P vcRc_ok mixed (by kernel_rfl) (by kernel_rfl) _ (e_rchk o.length hs.length (encL o) (encL hs) _ _) ?_
 simp only [true_and]
 refine ifD (fun h1 => ?_) (fun h1 => ⟨o, rfl, so, ifN (fun h2 => ?_) (fun h2 => ⟨o, rfl, so, ifD (fun h3 => ?_) (fun h3 => ?_)⟩)⟩)
 ·unfold shapeCheck at h
  rwa [if_pos (by omega)] at h
 ·unfold shapeCheck at h
  rwa [if_neg (by omega), if_pos h2] at h
 ·unfold shapeCheck at h
  rwa [if_neg (by omega), if_neg (fun h => h h2), if_pos h3] at h
 rw [shapeCheck_at (by omega) h2 h3] at h
 obtain ⟨_, o32, on⟩ := check_near h2
 refine down (n := hs.length) (p := fun k => (∀ i, i < k → holeErr o hs i = 0) → OkP 51 [shapeV o hs] 9 Post (stV [(1, some (.pointer (some ⟨0, 0, none⟩))), (24, some (trPts hs)), (25, some (.int .i64 hs.length)), (26, some (.int .i64 k))] [(0, some (.cells [trPt o, trPts hs] true))] 1)) (fun hall => ?_) (fun k k1 ih hall => ?_) (fun i hi => by omega)
 ·refine ok_P vcRc_ok mixed _ (l_rchk o.length hs.length hs.length (encL o) (encL hs) _ _) ?_
  rw [firstErr_zero.2 hall] at h
  simp only [true_and]
  exact ifD (fun hlt => by omega) (fun _ => h)
 ·refine ok_P vcRc_ok mixed _ (l_rchk o.length hs.length k (encL o) (encL hs) _ _) ?_
  have hk : ((k : Nat) : Int).toNat = k := Int.toNat_natCast k
  have bad : ∀ e : Int, holeErr o hs k = e → e ≠ 0 → Post (.int .i64 e) := fun e he hn => by
   rw [firstErr_at k1 hall (by rw [he]; exact hn), he] at h
   exact h
  simp only [true_and, and_true, hk, cell_pts k1, toN_tree, toE_tree, encL_take]
  have gd : hs.getD k [] = hs[k] := getD_at k1
  unfold holeErr at bad
  rw [gd] at bad
  refine ifD (fun _ => ⟨⟨by omega, by omega⟩, hs[k], rfl, sh _ (List.getElem_mem k1), ifN (fun g1 => bad _ (by rw [if_pos g1]) g1) (fun g1 => ?_)⟩) (fun h' => by omega)
  obtain ⟨k3, k32, kn⟩ := check_near g1
  have nz : ¬ (polyCheck hs[k] ≠ 0) := fun h => h g1
  rw [if_neg nz] at bad
  refine ⟨hs[k], rfl, sh _ (List.getElem_mem k1), ifD (fun g2 => bad 17 (by rw [if_pos (.inl g2)]) (by decide)) (fun g2 => ⟨hs[k], o, rfl, k32, o32, kn, on, ifD (fun g3 => ?_) (fun g3 => bad 17 (by rw [if_pos (.inr (.inl g3))]) (by decide))⟩)⟩
  have lt : (hs.take k).length = k := by rw [List.length_take]; omega
  refine ⟨⟨by omega, by omega, by omega⟩, ?_⟩
  rw [Nat.sub_zero]
  have all : ∀ i, i < k → (polyCheck hs[i]! = 0) := fun i hi => by
   have := (holeErr_zero.1 (hall i hi)).1
   rw [getD_at (show i < hs.length by omega)] at this
   rw [getElem!_pos hs i (by omega)]
   exact this
  have key := down (n := k) (p := fun j => (∀ t, t < j → ∀ (ht : t < hs.length), apartC hs[k] hs[t]) → OkP 51 [shapeV o hs] 17 Post (stV [(1, some (.pointer (some ⟨0, 0, none⟩))), (5, some (trPt hs[k])), (24, some (trPts hs)), (25, some (.int .i64 hs.length)), (26, some (.int .i64 k)), (49, some (tree 1 k (encL (hs.take k)))), (50, some (.int .i64 k)), (51, some (.int .i64 j))] [(0, some (.cells [trPt o, trPts hs] true))] 1)) (fun hin => by
   refine ok_P vcRc_ok mixed _ (m_rchk o.length hs.length hs[k].length k k k (encL o) (encL hs) (encL hs[k]) (encL (hs.take k)) _ _) ?_
   simp only [true_and, and_true, wrapSucc (show k < 2 ^ 62 by omega)]
   refine ifD (fun hlt => by omega) (fun _ => ih fun i hi => ?_)
   rcases Nat.lt_or_ge i k with h' | h'
   ·exact hall i h'
   ·rw [show i = k by omega]
    refine holeErr_zero.2 ?_
    rw [gd]
    refine ⟨g1, ?_, g3, fun t ht => ?_⟩
    ·unfold area2P at g2
     rw [if_pos g1] at g2
     omega
    ·rw [getD_at (show t < hs.length by omega)]
     exact hin t ht (by omega)) (fun j j1 jh hin => by
   refine ok_P vcRc_ok mixed _ (m_rchk o.length hs.length hs[k].length k k j (encL o) (encL hs) (encL hs[k]) (encL (hs.take k)) _ _) ?_
   have hj : ((j : Nat) : Int).toNat = j := Int.toNat_natCast j
   have jl : j < (hs.take k).length := by omega
   have je : (hs.take k)[j] = hs[j] := List.getElem_take
   have jz : polyCheck hs[j] = 0 := by
    have := all j j1
    rwa [getElem!_pos hs j (by omega)] at this
   obtain ⟨j3, j32, jn⟩ := check_near jz
   simp only [true_and, and_true, hj, cell_pts jl, je, toN_tree, toE_tree, wrapSucc (show j < 2 ^ 62 by omega)]
   refine ifD (fun _ => ⟨⟨by omega, by omega⟩, hs[k], hs[j], rfl, by omega, by omega, k32, j32, kn, jn, ifD (fun ha => jh fun t ht tl => ?_) (fun ha => bad 17 ?_ (by decide))⟩) (fun h' => by omega)
   ·rcases Nat.lt_or_ge t j with h' | h'
    ·exact hin t h' tl
    ·have : t = j := by omega
     subst this
     exact ha
   ·rw [if_pos (.inr (.inr ⟨j, j1, by rw [getD_at (show j < hs.length by omega)]; exact ha⟩))]) (fun t ht => by omega)
  exact key
theorem flat_pts (l : List (List Pt)) : List.flatMap (fun u : Value => u.cells.toList) (encL l).toList = l.map fun a => trPt a := by
 unfold encL
 rw [List.toList_toArray]
 induction l with
 | nil => rfl
 | cons a l ih =>
  rw [List.map_cons, List.flatMap_cons, ih, List.map_cons]
  rfl
theorem ok_cont : EntOk Tryz.prog ⟨139, c_cont⟩ := by
 rintro args Post ⟨o, hs, rfl, h8, h⟩
 refine pure_P noCall_ok mixed (by kernel_rfl) (by kernel_rfl) _ (e_cont o.length hs.length (encL o) (encL hs) _ _) ?_
 simp only [true_and, flat_pts]
 have en : encL (o :: hs) = (trPt o :: hs.map fun a => trPt a).toArray := by
  unfold encL
  rw [List.map_cons]
  rfl
 refine pIf_intro (fun hm => ?_) (fun hm => ?_)
 ·have : hs = [] := List.eq_nil_of_length_eq_zero (Nat.eq_of_beq_eq_true hm)
  subst this
  refine ⟨⟨Nat.le_refl _, fun v hv => ?_⟩, h⟩
  simp only [List.mem_cons, List.not_mem_nil, or_false] at hv
  subst hv
  rfl
 ·have nls : NLs (trPt o :: hs.map fun a => trPt a) := fun v hv => by
   rcases List.mem_cons.1 hv with rfl | hv
   ·rfl
   ·obtain ⟨a, _, rfl⟩ := List.mem_map.1 hv
    rfl
  refine ⟨by omega, ?_, by rw [List.length_map, Nat.mul_one], ⟨?_, nls⟩, ?_⟩
  ·rw [List.all_eq_true]
   intro v hv
   obtain ⟨a, _, rfl⟩ := List.mem_map.1 hv
   rfl
  ·simp
   omega
  ·have e : tree 1 (1 + hs.length) (chunks 1 (1 + hs.length) (List.drop 0 ([trPt o] ++ hs.map fun a => trPt a))) = trPts (o :: hs) := by
    have ec : chunks 1 (1 + hs.length) (List.drop 0 ([trPt o] ++ hs.map fun a => trPt a)) = encL (o :: hs) := by
     rw [en]
     show ((List.drop 0 (trPt o :: hs.map fun a => trPt a)).take (1 + hs.length)).toArray = _
     rw [List.drop_zero, List.take_of_length_le (by simp; omega)]
    rw [ec, Nat.add_comm]
    rfl
   rw [e]
   exact h
def overC (g : List Pt → Int) (o : List Pt) (hs : List (List Pt)) (i : Nat) : Int := g ((o :: hs).getD i [])
def rArea (o : List Pt) (hs : List (List Pt)) : Int := if shapeCheck o hs = 0 then sumTo (overC area2P o hs) (hs.length + 1) else 0
def rMomX (o : List Pt) (hs : List (List Pt)) : Int := if shapeCheck o hs = 0 then sumTo (overC mom6X o hs) (hs.length + 1) else 0
def rMomY (o : List Pt) (hs : List (List Pt)) : Int := if shapeCheck o hs = 0 then sumTo (overC mom6Y o hs) (hs.length + 1) else 0
def c_rar2 (args : List Value) (Post : Value → Prop) : Prop := ∃ (o : List Pt) (hs : List (List Pt)), args = [shapeV o hs] ∧ Short o ∧ Short hs ∧ (∀ h ∈ hs, Short h) ∧ Post (.int .i64 (rArea o hs))
def c_rmom (args : List Value) (Post : Value → Prop) : Prop := ∃ (o : List Pt) (hs : List (List Pt)), args = [shapeV o hs] ∧ Short o ∧ Short hs ∧ (∀ h ∈ hs, Short h) ∧ Post (.tuple #[.int .i64 (rMomX o hs), .int .i64 (rMomY o hs)])
theorem sumTo_32 {f : Nat → Int} {M : Int} (hM : 0 ≤ M) (h : ∀ k, -M ≤ f k ∧ f k ≤ M) {n : Nat} (hn : n ≤ 32) : -(M * 32) ≤ sumTo f n ∧ sumTo f n ≤ M * 32 := by
 have h2 := sumTo_bd h n
 have h3 := Int.mul_le_mul_of_nonneg_left (show (n : Int) ≤ 32 by omega) hM
 omega
theorem area2_bd (l : List Pt) : -68719476736 ≤ area2P l ∧ area2P l ≤ 68719476736 := by
 unfold area2P
 split
 ·rename_i h
  obtain ⟨h3, h32, hn⟩ := check_near h
  have := sumTo_32 (by decide) (shareP_bd hn (by omega)) h32
  unfold areaP
  omega
 ·omega
theorem mom6X_bd (l : List Pt) : -4503599627370496 ≤ mom6X l ∧ mom6X l ≤ 4503599627370496 := by
 unfold mom6X
 split
 ·rename_i h
  obtain ⟨h3, h32, hn⟩ := check_near h
  have := sumTo_32 (by decide) (momX_bd hn (by omega)) h32
  omega
 ·omega
theorem mom6Y_bd (l : List Pt) : -4503599627370496 ≤ mom6Y l ∧ mom6Y l ≤ 4503599627370496 := by
 unfold mom6Y
 split
 ·rename_i h
  obtain ⟨h3, h32, hn⟩ := check_near h
  have := sumTo_32 (by decide) (momY_bd hn (by omega)) h32
  omega
 ·omega
theorem over_wrap {g : List Pt → Int} {o : List Pt} {hs : List (List Pt)} (h : ∀ l, -4503599627370496 ≤ g l ∧ g l ≤ 4503599627370496) {k : Nat} (hk : k < 32) : IntKind.wrap .i64 (sumTo (overC g o hs) k + overC g o hs k) = sumTo (overC g o hs) (k + 1) := by
 have h1 : -4503599627370496 ≤ overC g o hs k ∧ overC g o hs k ≤ 4503599627370496 := h _
 have h2 := sumTo_bd (f := overC g o hs) (M := 4503599627370496) (fun i => h _) k
 rw [wrap64 (by omega) (by omega)]
 rfl
theorem vcRa_ok : VCallOk Tryz.prog vcRa := tabCall_ok (by
 intro e he
 simp only [List.mem_cons, List.not_mem_nil, or_false] at he
 rcases he with rfl | rfl | rfl | rfl
 ·exact ok_rchk
 ·exact ok_cont
 ·exact ok_par2
 ·exact ok_pmom) noCall_ok
theorem short_all {o : List Pt} {hs : List (List Pt)} (so : Short o) (sh : ∀ h ∈ hs, Short h) : ∀ h ∈ o :: hs, Short h := fun h hh => by
 rcases List.mem_cons.1 hh with rfl | hh
 ·exact so
 ·exact sh h hh
theorem ok_rar2 : EntOk Tryz.prog ⟨64, c_rar2⟩ := by
 rintro args Post ⟨o, hs, rfl, so, ss, sh, h⟩
 refine pure_P vcRa_ok mixed (by kernel_rfl) (by kernel_rfl) _ (e_rar2 o.length hs.length (encL o) (encL hs) _ _) ?_
 simp only [true_and]
 unfold rArea at h
 refine ⟨o, hs, rfl, so, ss, sh, ifN (fun h1 => ?_) (fun h1 => ?_)⟩
 ·rwa [if_neg h1] at h
 rw [if_pos h1] at h
 have h8 := ((shapeCheck_zero o hs).1 h1).few
 refine ⟨o, hs, rfl, h8, ?_⟩
 refine down (n := (o :: hs).length) (p := fun k => OkP 64 [shapeV o hs] 5 Post (stV [(3, some (.int .i64 (sumTo (overC area2P o hs) k))), (10, some (trPts (o :: hs))), (11, some (.int .i64 (o :: hs).length)), (12, some (.int .i64 k))] [] 0)) ?_ (fun k k1 ih => ?_)
 ·refine ok_P vcRa_ok mixed _ (l_rar2 o.length hs.length (o :: hs).length (o :: hs).length (sumTo (overC area2P o hs) (o :: hs).length) (encL o) (encL hs) (encL (o :: hs)) _ _) ?_
  simp only [true_and]
  exact ifD (fun hlt => by omega) (fun _ => h)
 ·refine ok_P vcRa_ok mixed _ (l_rar2 o.length hs.length (o :: hs).length k (sumTo (overC area2P o hs) k) (encL o) (encL hs) (encL (o :: hs)) _ _) ?_
  have hk : ((k : Nat) : Int).toNat = k := Int.toNat_natCast k
  have kl : k < 32 := by rw [List.length_cons] at k1; omega
  simp only [true_and, and_true, hk, cell_pts k1, toN_tree, toE_tree, wrapSucc (show k < 2 ^ 62 by omega)]
  refine ifD (fun _ => ⟨⟨by omega, by omega⟩, (o :: hs)[k], rfl, short_all so sh _ (List.getElem_mem k1), ?_⟩) (fun h' => by omega)
  have e : area2P (o :: hs)[k] = overC area2P o hs k := by unfold overC; rw [getD_at k1]
  rw [e, over_wrap (fun l => by have := area2_bd l; omega) kl]
  exact ih
theorem ok_rmom : EntOk Tryz.prog ⟨68, c_rmom⟩ := by
 rintro args Post ⟨o, hs, rfl, so, ss, sh, h⟩
 refine pure_P vcRa_ok mixed (by kernel_rfl) (by kernel_rfl) _ (e_rmom o.length hs.length (encL o) (encL hs) _ _) ?_
 simp only [true_and]
 unfold rMomX rMomY at h
 refine ⟨o, hs, rfl, so, ss, sh, ifN (fun h1 => ?_) (fun h1 => ?_)⟩
 ·rwa [if_neg h1, if_neg h1] at h
 rw [if_pos h1, if_pos h1] at h
 have h8 := ((shapeCheck_zero o hs).1 h1).few
 refine ⟨o, hs, rfl, h8, ?_⟩
 refine down (n := (o :: hs).length) (p := fun k => OkP 68 [shapeV o hs] 5 Post (stV [(4, some (.int .i64 (sumTo (overC mom6X o hs) k))), (5, some (.int .i64 (sumTo (overC mom6Y o hs) k))), (14, some (trPts (o :: hs))), (15, some (.int .i64 (o :: hs).length)), (16, some (.int .i64 k))] [] 0)) ?_ (fun k k1 ih => ?_)
 ·refine ok_P vcRa_ok mixed _ (l_rmom o.length hs.length (o :: hs).length (o :: hs).length (sumTo (overC mom6X o hs) (o :: hs).length) (sumTo (overC mom6Y o hs) (o :: hs).length) (encL o) (encL hs) (encL (o :: hs)) _ _) ?_
  simp only [true_and]
  exact ifD (fun hlt => by omega) (fun _ => h)
 ·refine ok_P vcRa_ok mixed _ (l_rmom o.length hs.length (o :: hs).length k (sumTo (overC mom6X o hs) k) (sumTo (overC mom6Y o hs) k) (encL o) (encL hs) (encL (o :: hs)) _ _) ?_
  have hk : ((k : Nat) : Int).toNat = k := Int.toNat_natCast k
  have kl : k < 32 := by rw [List.length_cons] at k1; omega
  simp only [true_and, and_true, hk, cell_pts k1, toN_tree, toE_tree, wrapSucc (show k < 2 ^ 62 by omega)]
  refine ifD (fun _ => ⟨⟨by omega, by omega⟩, (o :: hs)[k], rfl, short_all so sh _ (List.getElem_mem k1), ?_⟩) (fun h' => by omega)
  have e : mom6X (o :: hs)[k] = overC mom6X o hs k := by unfold overC; rw [getD_at k1]
  have e2 : mom6Y (o :: hs)[k] = overC mom6Y o hs k := by unfold overC; rw [getD_at k1]
  rw [e, e2, over_wrap mom6X_bd kl, over_wrap mom6Y_bd kl]
  exact ih
theorem sumTo_list {α : Type} (d : α) (g : α → Int) (l : List α) : sumTo (fun i => g (l.getD i d)) l.length = (l.map g).sum := by
 rw [sumTo_isum]
 exact isum_list d g l
theorem over_sum {g g' : List Pt → Int} {o : List Pt} {hs : List (List Pt)} (h : ∀ l ∈ o :: hs, g l = g' l) : sumTo (overC g o hs) (hs.length + 1) = g' o + (hs.map g').sum := by
 have e := sumTo_list [] g (o :: hs)
 have e2 : (fun i => g ((o :: hs).getD i [])) = overC g o hs := rfl
 rw [e2, List.length_cons] at e
 rw [e, List.map_cons, List.sum_cons, h o (by simp)]
 congr 2
 exact List.map_congr_left fun l hl => h l (by simp [hl])
theorem ShapeOk.all {o : List Pt} {hs : List (List Pt)} (h : ShapeOk o hs) : ∀ l ∈ o :: hs, polyCheck l = 0 := fun l hl => by
 rcases List.mem_cons.1 hl with rfl | hl
 ·exact h.out
 ·exact (h.hole l hl).1
theorem ShapeOk.rArea {o : List Pt} {hs : List (List Pt)} (h : ShapeOk o hs) : Go.Proofs.YtngginofamlkkaaGreatDoor.rArea o hs = areaP o + (hs.map areaP).sum := by
 unfold Go.Proofs.YtngginofamlkkaaGreatDoor.rArea
 rw [if_pos ((shapeCheck_zero o hs).2 h)]
 exact over_sum (g := area2P) (g' := areaP) fun l hl => by unfold area2P; rw [if_pos (h.all l hl)]
theorem ShapeOk.rMomX {o : List Pt} {hs : List (List Pt)} (h : ShapeOk o hs) : Go.Proofs.YtngginofamlkkaaGreatDoor.rMomX o hs = sumTo (momX o) o.length + (hs.map fun l => sumTo (momX l) l.length).sum := by
 unfold Go.Proofs.YtngginofamlkkaaGreatDoor.rMomX
 rw [if_pos ((shapeCheck_zero o hs).2 h)]
 exact over_sum (g := mom6X) (g' := fun l => sumTo (momX l) l.length) fun l hl => by unfold mom6X; rw [if_pos (h.all l hl)]
theorem ShapeOk.rMomY {o : List Pt} {hs : List (List Pt)} (h : ShapeOk o hs) : Go.Proofs.YtngginofamlkkaaGreatDoor.rMomY o hs = sumTo (momY o) o.length + (hs.map fun l => sumTo (momY l) l.length).sum := by
 unfold Go.Proofs.YtngginofamlkkaaGreatDoor.rMomY
 rw [if_pos ((shapeCheck_zero o hs).2 h)]
 exact over_sum (g := mom6Y) (g' := fun l => sumTo (momY l) l.length) fun l hl => by unfold mom6Y; rw [if_pos (h.all l hl)]
def c_rturn (args : List Value) (Post : Value → Prop) : Prop := ∃ a b c : Pt, args = [ptV a, ptV b, ptV c] ∧ Nr a ∧ Nr b ∧ Nr c ∧ Post (.int .i64 (sgnZ (crossP a b c)))
def c_rcr (args : List Value) (Post : Value → Prop) : Prop := ∃ p q : List Pt, args = [trPt p, trPt q] ∧ p.length ≤ 32 ∧ q.length ≤ 32 ∧ (∀ x ∈ p, Nr x) ∧ (∀ x ∈ q, Nr x) ∧ Post (.bool (decide (crossC p q)))
theorem e_r13turn (a b c : Pt) (H : HT) (Post : PV) : vcP Tryz.prog noCall 237 [] [ptV a, ptV b, ptV c] H Post = (let q1 := IntKind.wrap IntKind.i64 (IntKind.wrap IntKind.i64 (b.x - a.x) * IntKind.wrap IntKind.i64 (c.y - a.y)) - IntKind.wrap IntKind.i64 (IntKind.wrap IntKind.i64 (b.y - a.y) * IntKind.wrap IntKind.i64 (c.x - a.x)); T16 (T8 (T4 (T2 (pIf (decide (IntKind.wrap IntKind.i64 q1 > 0)) (T2 (Post (vi 1))) (T2 (pIf (decide (IntKind.wrap IntKind.i64 q1 < 0)) (T2 (Post (vi (-1)))) (T2 (Post (vi 0)))))))))) := by kernel_rfl
theorem e_r13on (a b q : Pt) (H : HT) (Post : PV) : vcP Tryz.prog (tabCall [⟨237, c_rturn⟩] noCall) 236 [] [ptV a, ptV b, ptV q] H Post = (T4 (T2 (True ∧ ∃ (a_1 : Pt), ∃ (b_1 : Pt), ∃ (c : Pt), eqL [Value.agg #[vi a.x, vi a.y], Value.agg #[vi b.x, vi b.y], Value.agg #[vi q.x, vi q.y]] [ptV a_1, ptV b_1, ptV c] ∧ Nr a_1 ∧ Nr b_1 ∧ Nr c ∧ True ∧ pIf (decide (sgnZ (crossP a_1 b_1 c) = 0)) (T8 (True ∧ pIf (decide (q.x ≥ if b.x < a.x then b.x else a.x)) (T8 (T2 (pIf (decide (q.x ≤ if b.x > a.x then b.x else a.x)) (T8 (T2 (pIf (decide (q.y ≥ if b.y < a.y then b.y else a.y)) (T8 (T2 (pIf (decide (q.y ≤ if b.y > a.y then b.y else a.y)) (T2 (True ∧ Post (vb true))) (T2 (True ∧ Post (vb false)))))) (T4 (True ∧ Post (vb false)))))) (T4 (T2 (True ∧ Post (vb false))))))) (T8 (True ∧ Post (vb false))))) (T8 (T2 (Post (vb false))))))) := by kernel_rfl
def vcRt : VCall := tabCall [⟨237, c_rturn⟩, ⟨236, c_onP⟩] noCall
theorem e_r13meet (a b c d : Pt) (H : HT) (Post : PV) : vcP Tryz.prog vcRt 207 [] [ptV a, ptV b, ptV c, ptV d] H Post = (let q1 := [Value.agg #[vi c.x, vi c.y], Value.agg #[vi d.x, vi d.y], Value.agg #[vi b.x, vi b.y]]; T8 (∃ (a_1 : Pt), ∃ (b_1 : Pt), ∃ (q : Pt), eqL [Value.agg #[vi a.x, vi a.y], Value.agg #[vi b.x, vi b.y], Value.agg #[vi c.x, vi c.y]] [ptV a_1, ptV b_1, ptV q] ∧ Nr a_1 ∧ Nr b_1 ∧ Nr q ∧ pIf (decide (onP a_1 b_1 q)) (T8 (Post (vb true))) (T4 (∃ (a_2 : Pt), ∃ (b_2 : Pt), ∃ (q : Pt), eqL [Value.agg #[vi a.x, vi a.y], Value.agg #[vi b.x, vi b.y], Value.agg #[vi d.x, vi d.y]] [ptV a_2, ptV b_2, ptV q] ∧ Nr a_2 ∧ Nr b_2 ∧ Nr q ∧ pIf (decide (onP a_2 b_2 q)) (T4 (T2 (True ∧ Post (vb true)))) (T4 (True ∧ ∃ (a_3 : Pt), ∃ (b_3 : Pt), ∃ (q : Pt), eqL [Value.agg #[vi c.x, vi c.y], Value.agg #[vi d.x, vi d.y], Value.agg #[vi a.x, vi a.y]] [ptV a_3, ptV b_3, ptV q] ∧ Nr a_3 ∧ Nr b_3 ∧ Nr q ∧ pIf (decide (onP a_3 b_3 q)) (T4 (True ∧ Post (vb true))) (T4 (True ∧ ∃ (a_4 : Pt), ∃ (b_4 : Pt), ∃ (q : Pt), eqL q1 [ptV a_4, ptV b_4, ptV q] ∧ Nr a_4 ∧ Nr b_4 ∧ Nr q ∧ pIf (decide (onP a_4 b_4 q)) (T2 (True ∧ Post (vb true))) (T4 (T2 (True ∧ ∃ (a_5 : Pt), ∃ (b_5 : Pt), ∃ (c_1 : Pt), eqL [Value.agg #[vi a.x, vi a.y], Value.agg #[vi b.x, vi b.y], Value.agg #[vi c.x, vi c.y]] [ptV a_5, ptV b_5, ptV c_1] ∧ Nr a_5 ∧ Nr b_5 ∧ Nr c_1 ∧ True ∧ ∃ (a_6 : Pt), ∃ (b_6 : Pt), ∃ (c_2 : Pt), eqL [Value.agg #[vi a.x, vi a.y], Value.agg #[vi b.x, vi b.y], Value.agg #[vi d.x, vi d.y]] [ptV a_6, ptV b_6, ptV c_2] ∧ Nr a_6 ∧ Nr b_6 ∧ Nr c_2 ∧ T2 (True ∧ pIf (decide (IntKind.wrap IntKind.i64 (sgnZ (crossP a_5 b_5 c_1) * sgnZ (crossP a_6 b_6 c_2)) < 0)) (T4 (T2 (True ∧ ∃ (a_7 : Pt), ∃ (b_7 : Pt), ∃ (c_3 : Pt), eqL [Value.agg #[vi c.x, vi c.y], Value.agg #[vi d.x, vi d.y], Value.agg #[vi a.x, vi a.y]] [ptV a_7, ptV b_7, ptV c_3] ∧ Nr a_7 ∧ Nr b_7 ∧ Nr c_3 ∧ True ∧ ∃ (a : Pt), ∃ (b_8 : Pt), ∃ (c_4 : Pt), eqL q1 [ptV a, ptV b_8, ptV c_4] ∧ Nr a ∧ Nr b_8 ∧ Nr c_4 ∧ T2 (True ∧ pIf (decide (IntKind.wrap IntKind.i64 (sgnZ (crossP a_7 b_7 c_3) * sgnZ (crossP a b_8 c_4)) < 0)) (T2 (True ∧ Post (vb true))) (T2 (True ∧ Post (vb false))))))) (T4 (Post (vb false))))))))))))))) := by kernel_rfl
def vcRx : VCall := tabCall [⟨207, c_meetP⟩] noCall
abbrev lpRx : List (Nat × List Nat) := [(2, [0, 1, 5]), (5, [0, 1, 5, 6])]
theorem e_rcr (n m : Nat) (A B : Array Value) (H : Code → List Fr → AS → Prop) (Post : Value → Prop) : vcP Tryz.prog vcRx 132 lpRx [tree 2 n A, tree 2 m B] H Post = (True ∧ True ∧ True ∧ True ∧ H (lpC Tryz.prog 132 2) (lpK Tryz.prog 132 2) (stV [(0, some (tree 2 n A)), (1, some (tree 2 m B)), (5, some (Value.int IntKind.i64 0))] [] 0)) := by kernel_rfl
theorem l_rcr (n m : Nat) (k : Int) (A B : Array Value) (H : HT) (Post : PV) : vcLP Tryz.prog vcRx 132 [tree 2 n A, tree 2 m B] lpRx 2 (stV [(0, some (tree 2 n A)), (1, some (tree 2 m B)), (5, some (.int .i64 k))] [] 0) H Post = (T4 (pIf (decide (k < (↑n : Int))) (T2 (True ∧ H (lpC Tryz.prog 132 5) (lpK Tryz.prog 132 5) (stV [(0, some (tree 2 n A)), (1, some (tree 2 m B)), (5, some (vi k)), (6, some (vi 0))] [] 0))) (T2 (Post (vb false))))) := by kernel_rfl
theorem m_rcr (n m : Nat) (k j : Int) (A B : Array Value) (H : HT) (Post : PV) : vcLP Tryz.prog vcRx 132 [tree 2 n A, tree 2 m B] lpRx 5 (stV [(0, some (tree 2 n A)), (1, some (tree 2 m B)), (5, some (.int .i64 k)), (6, some (.int .i64 j))] [] 0) H Post = (let q4 := IntKind.wrap IntKind.i64 (j + 1); let q3 := IntKind.wrap IntKind.i64 (k + 1); let q2 := (Int.toNat (Int.tmod q4 (↑m : Int))); let q1 := (Int.toNat (Int.tmod q3 (↑n : Int))); T4 (pIf (decide (j < (↑m : Int))) (T2 ((0 ≤ k ∧ k < (↑n : Int)) ∧ (cellAt A (Int.toNat k) 0 = vi (toI (cellAt A (Int.toNat k) 0)) ∧ cellAt A (Int.toNat k) 1 = vi (toI (cellAt A (Int.toNat k) 1)) ∧ True) ∧ T4 (True ∧ ((↑n : Int) = 0 → False) ∧ (0 ≤ Int.tmod q3 (↑n : Int) ∧ Int.tmod q3 (↑n : Int) < (↑n : Int)) ∧ (cellAt A q1 0 = vi (toI (cellAt A q1 0)) ∧ cellAt A q1 1 = vi (toI (cellAt A q1 1)) ∧ True) ∧ T2 ((0 ≤ j ∧ j < (↑m : Int)) ∧ (cellAt B (Int.toNat j) 0 = vi (toI (cellAt B (Int.toNat j) 0)) ∧ cellAt B (Int.toNat j) 1 = vi (toI (cellAt B (Int.toNat j) 1)) ∧ True) ∧ T4 (True ∧ ((↑m : Int) = 0 → False) ∧ (0 ≤ Int.tmod q4 (↑m : Int) ∧ Int.tmod q4 (↑m : Int) < (↑m : Int)) ∧ (cellAt B q2 0 = vi (toI (cellAt B q2 0)) ∧ cellAt B q2 1 = vi (toI (cellAt B q2 1)) ∧ True) ∧ ∃ (a : Pt), ∃ (b : Pt), ∃ (c : Pt), ∃ (d : Pt), eqL [Value.agg #[vi (toI (cellAt A (Int.toNat k) 0)), vi (toI (cellAt A (Int.toNat k) 1))], Value.agg #[vi (toI (cellAt A q1 0)), vi (toI (cellAt A q1 1))], Value.agg #[vi (toI (cellAt B (Int.toNat j) 0)), vi (toI (cellAt B (Int.toNat j) 1))], Value.agg #[vi (toI (cellAt B q2 0)), vi (toI (cellAt B q2 1))]] [ptV a, ptV b, ptV c, ptV d] ∧ Nr a ∧ Nr b ∧ Nr c ∧ Nr d ∧ pIf (decide (meetP a b c d)) (T2 (True ∧ Post (vb true))) (T4 (T2 (H (lpC Tryz.prog 132 5) (lpK Tryz.prog 132 5) (stV [(0, some (tree 2 n A)), (1, some (tree 2 m B)), (5, some (vi k)), (6, some (vi q4))] [] 0))))))))) (T4 (True ∧ H (lpC Tryz.prog 132 2) (lpK Tryz.prog 132 2) (stV [(0, some (tree 2 n A)), (1, some (tree 2 m B)), (5, some (vi q3))] [] 0))))) := by kernel_rfl
def vcRy : VCall := tabCall [⟨130, c_pchk⟩, ⟨131, c_par2⟩, ⟨132, c_rcr⟩, ⟨133, c_pwhere⟩] noCall
abbrev lpRy : List (Nat × List Nat) := [(9, [1, 4]), (18, [1, 4, 5, 7])]
theorem e_r13chk (n m : Nat) (A B : Array Value) (H : HT) (Post : PV) : vcP Tryz.prog vcRy 57 lpRy [.agg #[tree 2 n A, tree 1 m B]] H Post = (T4 (T2 (pIf (decide ((↑m : Int) > 8)) (T2 (Post (vi 12))) (T2 (∃ (l : List Pt), eqL [tree 2 n A] [trPt l] ∧ Short l ∧ T2 (True ∧ pIf (!decide (polyCheck l = 0)) (T2 (True ∧ Post (vi (polyCheck l)))) (T2 (∃ (l : List Pt), eqL [tree 2 n A] [trPt l] ∧ Short l ∧ True ∧ pIf (decide (area2P l ≤ 0)) (T2 (Post (vi 17))) (T2 ((True ∧ True) ∧ H (lpC Tryz.prog 57 9) (lpK Tryz.prog 57 9) (stV [(1, some (pt 0)), (4, some (vi 0))] [(0, some (AObj.cells [tree 2 n A, tree 1 m B] true))] 1))))))))))) := by kernel_rfl
theorem l_r13chk (n m : Nat) (k : Int) (A B : Array Value) (H : HT) (Post : PV) : vcLP Tryz.prog vcRy 57 [.agg #[tree 2 n A, tree 1 m B]] lpRy 9 (stV [(1, some (.pointer (some ⟨0, 0, none⟩))), (4, some (.int .i64 k))] [(0, some (.cells [tree 2 n A, tree 1 m B] true))] 1) H Post = (let q1 := cellAt B (Int.toNat k) 0; T4 (True ∧ pIf (decide (k < (↑m : Int))) (T2 (True ∧ (0 ≤ k ∧ k < (↑m : Int)) ∧ cellAt B (Int.toNat k) 0 = tree 2 (toN q1) (toE q1) ∧ T2 (∃ (l : List Pt), eqL [tree 2 (toN q1) (toE q1)] [trPt l] ∧ Short l ∧ T2 (True ∧ pIf (!decide (polyCheck l = 0)) (T2 (True ∧ Post (vi (polyCheck l)))) (True ∧ ∃ (l : List Pt), eqL [tree 2 (toN q1) (toE q1)] [trPt l] ∧ Short l ∧ T2 (pIf (decide (area2P l ≥ 0)) (T4 (T2 (Post (vi 17)))) (T4 (∃ (p : List Pt), ∃ (q : List Pt), eqL [tree 2 n A, tree 2 (toN q1) (toE q1)] [trPt p, trPt q] ∧ List.length p ≤ 32 ∧ List.length q ≤ 32 ∧ (∀ (x : Pt), x ∈ p → Nr x) ∧ (∀ (x : Pt), x ∈ q → Nr x) ∧ pIf (decide (crossC p q)) (T4 (T2 (Post (vi 17)))) (T4 (T2 ((toI (vi 0) ≤ 0 ∧ 0 < (↑(toN q1) : Int)) ∧ (cellAt (toE q1) 0 0 = vi (toI (cellAt (toE q1) 0 0)) ∧ cellAt (toE q1) 0 1 = vi (toI (cellAt (toE q1) 0 1)) ∧ True) ∧ ∃ (l : List Pt), ∃ (q : Pt), eqL [tree 2 n A, Value.agg #[vi (toI (cellAt (toE q1) 0 0)), vi (toI (cellAt (toE q1) 0 1))]] [trPt l, ptV q] ∧ Short l ∧ T2 (pIf (!decide (whereP l q = 1)) (T2 (True ∧ Post (vi 17))) (T2 (True ∧ (True ∧ True) ∧ H (lpC Tryz.prog 57 18) (lpK Tryz.prog 57 18) (stV [(1, some (pt 0)), (4, some (vi k)), (5, some (tree 2 (toN q1) (toE q1))), (7, some (vi 0))] [(0, some (AObj.cells [tree 2 n A, tree 1 m B] true))] 1))))))))))))))) (T2 (Post (vi 0))))) := by kernel_rfl
theorem m_r13chk (n m p : Nat) (k j : Int) (A B C : Array Value) (H : HT) (Post : PV) : vcLP Tryz.prog vcRy 57 [.agg #[tree 2 n A, tree 1 m B]] lpRy 18 (stV [(1, some (.pointer (some ⟨0, 0, none⟩))), (4, some (.int .i64 k)), (5, some (tree 2 p C)), (7, some (.int .i64 j))] [(0, some (.cells [tree 2 n A, tree 1 m B] true))] 1) H Post = (let q1 := cellAt B (Int.toNat j) 0; T2 (True ∧ pIf (decide (j < k)) (T4 ((0 ≤ j ∧ j < (↑m : Int)) ∧ cellAt B (Int.toNat j) 0 = tree 2 (toN q1) (toE q1) ∧ ∃ (p_1 : List Pt), ∃ (q : List Pt), eqL [tree 2 p C, tree 2 (toN q1) (toE q1)] [trPt p_1, trPt q] ∧ List.length p_1 ≤ 32 ∧ List.length q ≤ 32 ∧ (∀ (x : Pt), x ∈ p_1 → Nr x) ∧ (∀ (x : Pt), x ∈ q → Nr x) ∧ pIf (decide (crossC p_1 q)) (T4 (T2 (True ∧ Post (vi 17)))) (T4 (T2 ((0 ≤ j ∧ j < (↑m : Int)) ∧ cellAt B (Int.toNat j) 0 = tree 2 (toN q1) (toE q1) ∧ (toI (vi 0) ≤ 0 ∧ 0 < (↑(toN q1) : Int)) ∧ (cellAt (toE q1) 0 0 = vi (toI (cellAt (toE q1) 0 0)) ∧ cellAt (toE q1) 0 1 = vi (toI (cellAt (toE q1) 0 1)) ∧ True) ∧ ∃ (l : List Pt), ∃ (q : Pt), eqL [tree 2 p C, Value.agg #[vi (toI (cellAt (toE q1) 0 0)), vi (toI (cellAt (toE q1) 0 1))]] [trPt l, ptV q] ∧ Short l ∧ T2 (pIf (!decide (whereP l q = -1)) (T4 (True ∧ Post (vi 17))) (T4 (True ∧ (0 ≤ j ∧ j < (↑m : Int)) ∧ cellAt B (Int.toNat j) 0 = tree 2 (toN q1) (toE q1) ∧ True ∧ (toI (vi 0) ≤ 0 ∧ 0 < (↑p : Int)) ∧ (cellAt C 0 0 = vi (toI (cellAt C 0 0)) ∧ cellAt C 0 1 = vi (toI (cellAt C 0 1)) ∧ True) ∧ ∃ (l : List Pt), ∃ (q : Pt), eqL [tree 2 (toN q1) (toE q1), Value.agg #[vi (toI (cellAt C 0 0)), vi (toI (cellAt C 0 1))]] [trPt l, ptV q] ∧ Short l ∧ T2 (pIf (!decide (whereP l q = -1)) (T2 (True ∧ Post (vi 17))) (T4 (True ∧ (True ∧ True) ∧ H (lpC Tryz.prog 57 18) (lpK Tryz.prog 57 18) (stV [(1, some (pt 0)), (4, some (vi k)), (5, some (tree 2 p C)), (7, some (vi (IntKind.wrap IntKind.i64 (j + 1))))] [(0, some (AObj.cells [tree 2 n A, tree 1 m B] true))] 1)))))))))))) (T4 ((True ∧ True) ∧ H (lpC Tryz.prog 57 9) (lpK Tryz.prog 57 9) (stV [(1, some (pt 0)), (4, some (vi (IntKind.wrap IntKind.i64 (k + 1))))] [(0, some (AObj.cells [tree 2 n A, tree 1 m B] true))] 1))))) := by kernel_rfl
theorem e_r13cont (n m : Nat) (A B : Array Value) (H : HT) (Post : PV) : vcP Tryz.prog noCall 140 [] [.agg #[tree 2 n A, tree 1 m B]] H Post = (T8 (pIf (Nat.beq m 0) (true = true ∧ True ∧ (1 ≤ 1 ∧ NLs [tree 2 n A]) ∧ Post (tree 1 1 #[tree 2 n A])) (1 + m ≤ 33554432 ∧ List.all (List.flatMap (fun (u : Value) => Array.toList (Value.cells u)) (Array.toList B)) single = true ∧ List.length (List.flatMap (fun (u : Value) => Array.toList (Value.cells u)) (Array.toList B)) = m * 1 ∧ 1 = 1 ∧ True ∧ (0 + (1 + m) * 1 ≤ List.length ([(tree 2 n A)] ++ List.flatMap (fun (u : Value) => Array.toList (Value.cells u)) (Array.toList B)) ∧ NLs (tree 2 n A :: (List.flatMap (fun (u : Value) => Array.toList (Value.cells u)) (Array.toList B)))) ∧ Post (tree 1 (1 + m) (chunks 1 (1 + m) (List.drop 0 ([(tree 2 n A)] ++ List.flatMap (fun (u : Value) => Array.toList (Value.cells u)) (Array.toList B)))))))) := by kernel_rfl
def vcRz : VCall := tabCall [⟨57, c_rchk⟩, ⟨140, c_cont⟩, ⟨131, c_par2⟩, ⟨143, c_pmom⟩] noCall
theorem e_r13ar2 (n m : Nat) (A B : Array Value) (H : HT) (Post : PV) : vcP Tryz.prog vcRz 67 [(6, [3, 4, 5])] [.agg #[tree 2 n A, tree 1 m B]] H Post = (T2 (True ∧ ∃ (o : List Pt), ∃ (hs : List (List Pt)), eqL [Value.agg #[tree 2 n A, tree 1 m B]] [shapeV o hs] ∧ Short o ∧ Short hs ∧ (∀ (h : List Pt), h ∈ hs → Short h) ∧ True ∧ pIf (!decide (shapeCheck o hs = 0)) (T2 (Post (vi 0))) (T2 (∃ (o : List Pt), ∃ (hs : List (List Pt)), eqL [Value.agg #[tree 2 n A, tree 1 m B]] [shapeV o hs] ∧ List.length hs ≤ 8 ∧ T4 (H (lpC Tryz.prog 67 6) (lpK Tryz.prog 67 6) (stV [(3, some (vi 0)), (4, some (tree 1 (List.length (o :: hs)) (encL (o :: hs)))), (5, some (vi 0))] [] 0)))))) := by kernel_rfl
theorem l_r13ar2 (n m q : Nat) (k s : Int) (A B C : Array Value) (H : HT) (Post : PV) : vcLP Tryz.prog vcRz 67 [.agg #[tree 2 n A, tree 1 m B]] [(6, [3, 4, 5])] 6 (stV [(3, some (.int .i64 s)), (4, some (tree 1 q C)), (5, some (.int .i64 k))] [] 0) H Post = (T4 (pIf (decide (k < (↑q : Int))) (T2 (True ∧ (0 ≤ k ∧ k < (↑q : Int)) ∧ cellAt C (Int.toNat k) 0 = tree 2 (toN (cellAt C (Int.toNat k) 0)) (toE (cellAt C (Int.toNat k) 0)) ∧ ∃ (l : List Pt), eqL [tree 2 (toN (cellAt C (Int.toNat k) 0)) (toE (cellAt C (Int.toNat k) 0))] [trPt l] ∧ Short l ∧ T4 (T2 (True ∧ H (lpC Tryz.prog 67 6) (lpK Tryz.prog 67 6) (stV [(3, some (vi (IntKind.wrap IntKind.i64 (s + area2P l)))), (4, some (tree 1 q C)), (5, some (vi (IntKind.wrap IntKind.i64 (k + 1))))] [] 0))))) (T2 (True ∧ Post (vi s))))) := by kernel_rfl
theorem e_r13mom (n m : Nat) (A B : Array Value) (H : HT) (Post : PV) : vcP Tryz.prog vcRz 70 [(6, [4, 5, 6, 7])] [.agg #[tree 2 n A, tree 1 m B]] H Post = (T4 (∃ (o : List Pt), ∃ (hs : List (List Pt)), eqL [Value.agg #[tree 2 n A, tree 1 m B]] [shapeV o hs] ∧ Short o ∧ Short hs ∧ (∀ (h : List Pt), h ∈ hs → Short h) ∧ True ∧ pIf (!decide (shapeCheck o hs = 0)) (T2 ((T2 (True)) ∧ Post (Value.tuple #[vi 0, vi 0]))) (T2 (True ∧ ∃ (o : List Pt), ∃ (hs : List (List Pt)), eqL [Value.agg #[tree 2 n A, tree 1 m B]] [shapeV o hs] ∧ List.length hs ≤ 8 ∧ T4 (H (lpC Tryz.prog 70 6) (lpK Tryz.prog 70 6) (stV [(4, some (vi 0)), (5, some (vi 0)), (6, some (tree 1 (List.length (o :: hs)) (encL (o :: hs)))), (7, some (vi 0))] [] 0)))))) := by kernel_rfl
theorem l_r13mom (n m q : Nat) (k s t : Int) (A B C : Array Value) (H : HT) (Post : PV) : vcLP Tryz.prog vcRz 70 [.agg #[tree 2 n A, tree 1 m B]] [(6, [4, 5, 6, 7])] 6 (stV [(4, some (.int .i64 s)), (5, some (.int .i64 t)), (6, some (tree 1 q C)), (7, some (.int .i64 k))] [] 0) H Post = (T4 (pIf (decide (k < (↑q : Int))) (T2 ((0 ≤ k ∧ k < (↑q : Int)) ∧ cellAt C (Int.toNat k) 0 = tree 2 (toN (cellAt C (Int.toNat k) 0)) (toE (cellAt C (Int.toNat k) 0)) ∧ ∃ (l : List Pt), eqL [tree 2 (toN (cellAt C (Int.toNat k) 0)) (toE (cellAt C (Int.toNat k) 0))] [trPt l] ∧ Short l ∧ T16 (T2 (H (lpC Tryz.prog 70 6) (lpK Tryz.prog 70 6) (stV [(4, some (vi (IntKind.wrap IntKind.i64 (s + mom6X l)))), (5, some (vi (IntKind.wrap IntKind.i64 (t + mom6Y l)))), (6, some (tree 1 q C)), (7, some (vi (IntKind.wrap IntKind.i64 (k + 1))))] [] 0))))) (T4 ((T2 (True)) ∧ Post (Value.tuple #[vi s, vi t]))))) := by kernel_rfl
end Go.Proofs.YtngginofamlkkaaGreatDoor
