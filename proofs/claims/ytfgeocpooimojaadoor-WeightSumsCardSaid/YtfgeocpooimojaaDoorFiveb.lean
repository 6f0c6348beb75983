/-
  Five appends in one statement, walked in whatever order is drawn. Conditions: as each theorem states them.
-/
import Derived.Test.YtfgeocpooimojaaDoorFive
namespace Go.Proofs.YtfgeocpooimojaaDoor
open Go Go.RowKit

theorem wp_build1 {o : Oper} {a : Act} {w : World} {K : Act → World → Prop} {Q : Exit → Act → World → Prop} (t : Nat) (x : Int) (ho : o.op = .buildSlice 58 1 #[(0, .tmp t)]) (hx : a.tmps.getD t undef = .int .i64 x)
    (hk : K (a.put o.dst (.slice (some ⟨w.heap.size, 0, none⟩) 1 1)) (w.alloc (.cells #[.int .i64 x] 3))) : o.wp Tryd.prog a w K Q := by
  have he : a.tmps[t]?.getD undef = .int .i64 x := by simpa using hx
  unfold Oper.wp execOp
  simp [ho, he, go_sem]
  exact hk
theorem getD_tf (l : Array Bool) (i : Nat) (h : i < l.size) : l.getD i false = l.getD i true := by simp [h]
/-- What the statement's operations are: the five slices, the five appends behind one another, the assignments behind them all. -/
structure FiveOps (ops : Array Oper) : Prop where
  size : ops.size = 45
  build : ∀ c, c < 5 → ∃ ty pos after, ops[6 + 8 * c]? = some ⟨some (40 + 8 * c), .buildSlice 58 1 #[(0, .tmp (39 + 8 * c))], ty, pos, after, none⟩ ∧ ∀ e ∈ after, e.on = 5 + 8 * c
  app : ∀ c, c < 5 → ∃ ty pos after, ops[7 + 8 * c]? = some ⟨some (41 + 8 * c), .call { callee := .builtin .append, args := #[.tmp (34 + 8 * c), .tmp (40 + 8 * c)], argTypes := #[58, 58] }, ty, pos, after, none⟩ ∧
    (∃ e ∈ after, Region.binds .any e = true ∧ e.on = 6 + 8 * c) ∧ (0 < c → ∃ e ∈ after, Region.binds .any e = true ∧ e.on = 7 + 8 * (c - 1)) ∧ ∀ e ∈ after, e.on = 8 * c ∨ e.on = 6 + 8 * c ∨ (0 < c ∧ e.on = 7 + 8 * (c - 1))
  asg : ∀ i, 40 ≤ i → i < 45 → ∃ o, ops[i]? = some o ∧ ∃ e ∈ o.after, Region.binds .any e = true ∧ e.on = i - 1
theorem sum_bump (st : Nat → Nat) (c : Nat) (hc : c < 5) : bump st c 0 + bump st c 1 + bump st c 2 + bump st c 3 + bump st c 4 = st 0 + st 1 + st 2 + st 3 + st 4 + 1 := by
  have : c = 0 ∨ c = 1 ∨ c = 2 ∨ c = 3 ∨ c = 4 := by omega
  rcases this with rfl | rfl | rfl | rfl | rfl <;> simp [bump] <;> omega
theorem least_open (st : Nat → Nat) (h2 : ∀ c, c < 5 → st c ≤ 2) (h : st 0 + st 1 + st 2 + st 3 + st 4 < 10) : ∃ c, c < 5 ∧ st c < 2 ∧ ∀ d, d < c → st d = 2 := by
  have b0 := h2 0 (by omega); have b1 := h2 1 (by omega); have b2 := h2 2 (by omega); have b3 := h2 3 (by omega); have b4 := h2 4 (by omega)
  by_cases h0 : st 0 < 2
  · exact ⟨0, by omega, h0, fun d hd => by omega⟩
  by_cases h1 : st 1 < 2
  · exact ⟨1, by omega, h1, fun d hd => by obtain rfl : d = 0 := by omega
                                           omega⟩
  by_cases h2' : st 2 < 2
  · exact ⟨2, by omega, h2', fun d hd => by
      have : d = 0 ∨ d = 1 := by omega
      rcases this with rfl | rfl <;> omega⟩
  by_cases h3 : st 3 < 2
  · exact ⟨3, by omega, h3, fun d hd => by
      have : d = 0 ∨ d = 1 ∨ d = 2 := by omega
      rcases this with rfl | rfl | rfl <;> omega⟩
  · exact ⟨4, by omega, by omega, fun d hd => by
      have : d = 0 ∨ d = 1 ∨ d = 2 ∨ d = 3 := by omega
      rcases this with rfl | rfl | rfl | rfl <;> omega⟩
section
variable {ops : Array Oper} {Q : Exit → Act → World → Prop} {S : World → Prop} {B n : Nat} {wr : World} {a0 : Act} {v : Nat → Value} {xs : Nat → List Value} {x : Nat → Int}
set_option maxRecDepth 100000 in
theorem five_walk (F : FiveOps ops) (hS : ∀ w', Below B wr w' → S w') (hBw : B ≤ wr.heap.size) (hsz : 80 ≤ a0.tmps.size) (hn : n ≤ 1000000)
    (hv : ∀ c, c < 5 → a0.tmps.getD (34 + 8 * c) undef = v c) (hx : ∀ c, c < 5 → a0.tmps.getD (39 + 8 * c) undef = .int .i64 (x c))
    (hend : ∀ st bs ps gs listed a w, (∀ c, c < 5 → st c = 2) → Five B n wr 3 a0 v xs x st bs ps gs listed a w → wpAnyH Tryd.prog .any ops Q S 5 listed a w) :
    ∀ k st bs ps gs listed a w, Five B n wr 3 a0 v xs x st bs ps gs listed a w → st 0 + st 1 + st 2 + st 3 + st 4 + k = 10 → wpAnyH Tryd.prog .any ops Q S (5 + k) listed a w := by
  obtain ⟨i0, hi, hz0, hz1, hz2⟩ := info_parts Tryd.infoInt
  intro k
  induction k with
  | zero =>
    intro st bs ps gs listed a w h hk
    refine hend st bs ps gs listed a w (fun c hc => ?_) h
    have b0 := h.st2 0 (by omega); have b1 := h.st2 1 (by omega); have b2 := h.st2 2 (by omega); have b3 := h.st2 3 (by omega); have b4 := h.st2 4 (by omega)
    have : c = 0 ∨ c = 1 ∨ c = 2 ∨ c = 3 ∨ c = 4 := by omega
    rcases this with rfl | rfl | rfl | rfl | rfl <;> omega
  | succ k ih =>
    intro st bs ps gs listed a w h hk
    have hlist : ∀ i, i < 45 → listed.getD i false = fiveL st i := fun i hi => by rw [getD_tf _ _ (by rw [h.size]; exact hi)]; exact h.list i hi
    refine ⟨fun hnil => ?_, fun i hir => ?_⟩
    · exfalso
      obtain ⟨c, hc, hlt, hall⟩ := least_open st h.st2 (by omega)
      by_cases h0 : st c = 0
      · obtain ⟨ty, pos, after, ho, haf⟩ := F.build c hc
        have : 6 + 8 * c ∈ Region.ready .any ops listed := mem_ready.2 ⟨by rw [h.list _ (by omega), (fiveL_at st c hc).1, h0]; rfl, _, ho, fun e he _ => by
          rw [haf e he, hlist _ (by omega)]
          unfold fiveL; rw [if_neg (by omega), if_neg (by omega), if_neg (by omega)]⟩
        rw [hnil] at this; cases this
      · have h1 : st c = 1 := by omega
        obtain ⟨ty, pos, after, ho, _, _, haf⟩ := F.app c hc
        have : 7 + 8 * c ∈ Region.ready .any ops listed := mem_ready.2 ⟨by rw [h.list _ (by omega), (fiveL_at st c hc).2, h1]; rfl, _, ho, fun e he _ => by
          rcases haf e he with e1 | e1 | ⟨hc0, e1⟩
          · rw [e1, hlist _ (by omega)]
            unfold fiveL; rw [if_neg (by omega), if_neg (by omega), if_neg (by omega)]
          · rw [e1, hlist _ (by omega), (fiveL_at st c hc).1, h1]; rfl
          · rw [e1, hlist _ (by omega), (fiveL_at st (c - 1) (by omega)).2, hall (c - 1) (by omega)]; rfl⟩
        rw [hnil] at this; cases this
    · obtain ⟨hun, o, ho, hdep⟩ := mem_ready.1 hir
      have hi45 : i < 45 := by
        have := (Array.getElem?_eq_some_iff.1 ho).1
        rw [F.size] at this; exact this
      rw [h.list i hi45] at hun
      rcases five_cases st i hi45 hun with h40 | ⟨c, hc, ⟨rfl, h0⟩ | ⟨rfl, h1⟩⟩
      · exfalso
        obtain ⟨o', ho', e, he, hb, hon⟩ := F.asg i h40 hi45
        rw [ho] at ho'
        obtain rfl : o = o' := by injection ho'
        have hd := hdep e he hb
        rw [hon, hlist _ (by omega)] at hd
        by_cases hi40 : i = 40
        · subst hi40
          have e4 := (fiveL_at st 4 (by omega)).2
          simp only [Nat.reduceMul, Nat.reduceAdd, Nat.reduceSub] at e4 hd
          rw [e4] at hd
          have b4 : 2 ≤ st 4 := by simpa using hd
          have c4 := h.st2 4 (by omega)
          have b3 := h.ord 4 (by omega) (by omega) (by omega)
          have b2 := h.ord 3 (by omega) (by omega) (by simpa using b3)
          have b1 := h.ord 2 (by omega) (by omega) (by simpa using b2)
          have b0 := h.ord 1 (by omega) (by omega) (by simpa using b1)
          simp at b3 b2 b1 b0
          omega
        · unfold fiveL at hd
          rw [if_pos (by omega)] at hd
          cases hd
      · obtain ⟨ty, pos, after, ho', _⟩ := F.build c hc
        unfold wpOp
        rw [ho']
        simp only []
        rw [if_pos (by simp [Region.wanted])]
        refine .inl (wp_build1 (39 + 8 * c) (x c) rfl (by rw [h.frame, fiveT_old _ _ _ _ _ _ (.inr rfl)]; exact hx c hc) ?_)
        have h' := h.built hc h0 hBw hsz
        exact ⟨hS _ h'.below, ih _ _ _ _ _ _ _ h' (by have := sum_bump st c hc; omega)⟩
      · obtain ⟨ty, pos, after, ho', ⟨e, he, hb, hon⟩, hpr, _⟩ := F.app c hc
        have hprev : 0 < c → st (c - 1) = 2 := by
          intro hc0
          obtain ⟨e', he', hb', hon'⟩ := hpr hc0
          rw [ho] at ho'
          obtain rfl : o = _ := by injection ho'
          have := hdep e' he' hb'
          rw [hon', hlist _ (by omega), (fiveL_at st (c - 1) (by omega)).2] at this
          have h2 : 2 ≤ st (c - 1) := by simpa using this
          have := h.st2 (c - 1) (by omega)
          omega
        have hst : st c = 1 := by
          rw [ho] at ho'
          obtain rfl : o = _ := by injection ho'
          have := hdep e he hb
          rw [hon, hlist _ (by omega), (fiveL_at st c hc).1] at this
          have : 1 ≤ st c := by simpa using this
          omega
        unfold wpOp
        rw [ho']
        simp only []
        rw [if_pos (by simp [Region.wanted])]
        have ht := h.tmp c hc hst
        refine .inl (wp_append_lies w (.tmp (34 + 8 * c)) (.tmp (40 + 8 * c)) 58 rfl B 3 i0 _ 1 8 Tryd.underlying58 hi hz0 hz1 hz2 rfl (by omega) (v c) n (xs c) (by show a.tmps.getD _ undef = _; rw [h.frame, fiveT_old _ _ _ _ _ _ (.inl rfl)]; exact hv c hc) (h.row0 c hc (by omega))
          ⟨gs c, 0, none⟩ 1 1 [.int .i64 (x c)] (by show a.tmps.getD _ undef = _; rw [h.frame, fiveT_bs _ _ _ _ c hc (by omega)]; exact ht.1) rfl (World.news_of_block ht.2) (by intro u hu; simp at hu; subst hu; rfl) (by omega) (by unfold maxLen; omega) (by omega) (Nat.le_trans hBw h.below.size) w.heap.size rfl ?_)
        intro g cap w' hown hgrow hat _
        have h' := h.appended hc hst hprev hBw hsz hown hgrow hat
        exact ⟨hS _ h'.below, ih _ _ _ _ _ _ _ h' (by have := sum_bump st c hc; omega)⟩
end
theorem five_list_of {listed : Array Bool} {st : Nat → Nat} (h : ((List.range 45).all fun i => listed.getD i true == fiveL st i) = true) : ∀ i, i < 45 → listed.getD i true = fiveL st i := by
  intro i hi
  have := List.all_eq_true.1 h i (List.mem_range.2 hi)
  simpa using this
theorem fiveT_zero (a0 : Act) (bs ps : Nat → Value) (t : Nat) : fiveT a0 (fun _ => 0) bs ps t = a0.tmps.getD t undef := by
  unfold fiveT
  rw [if_neg (by simp), if_neg (by simp)]
theorem five_start {B n : Nat} {W0 : World} {a0 : Act} {v : Nat → Value} {xs : Nat → List Value} {x : Nat → Int} {listed : Array Bool} (hl : listed.size = 45) (hlist : ((List.range 45).all fun i => listed.getD i true == fiveL (fun _ => 0) i) = true)
    (hown : ∀ c, c < 5 → W0.ownsRow B 3 1 (v c) n (xs c)) (hap : ∀ c, c < 5 → ∀ d, d < 5 → c ≠ d → ∀ g, (v c).ownBlock = some g → (v d).ownBlock ≠ some g) :
    Five B n W0 3 a0 v xs x (fun _ => 0) (fun _ => undef) (fun _ => undef) (fun _ => 0) listed a0 W0 :=
  ⟨hl, five_list_of hlist, fun _ _ => by omega, rfl, rfl, fun t => (fiveT_zero _ _ _ t).symm, Below.refl _ _, fun c hc _ => hown c hc, (fun _ _ h => by cases h), (fun _ _ h => by cases h), hap, (fun _ _ _ _ h => by cases h), (fun _ _ _ h => by cases h)⟩
theorem array_ext_getD (p q : Array Value) (hs : p.size = q.size) (h : ∀ t, p.getD t undef = q.getD t undef) : p = q := by
  apply Array.ext hs
  intro i h1 h2
  have := h i
  simpa [h1, h2] using this
section
variable {B n : Nat} {wr : World} {E : TypeId} {a0 : Act} {v : Nat → Value} {xs : Nat → List Value} {x : Nat → Int} {st : Nat → Nat} {bs ps : Nat → Value} {gs : Nat → Nat} {listed : Array Bool} {a : Act} {w : World}
theorem Five.list_end (h : Five B n wr E a0 v xs x st bs ps gs listed a w) (h2 : ∀ c, c < 5 → st c = 2) : listed = #[true, true, true, true, true, true, true, true, true, true, true, true, true, true, true, true, true, true, true, true, true, true, true, true, true, true, true, true, true, true, true, true, true, true, true, true, true, true, true, true, false, false, false, false, false] := by
  have key : ∀ i, i < 45 → fiveL st i = decide (i < 40) := by
    intro i hi
    unfold fiveL
    by_cases h40 : 40 ≤ i
    · rw [if_pos h40]; simp; omega
    · rw [if_neg h40, h2 (i / 8) (by omega)]
      have : i < 40 := by omega
      split
      · simp [this]
      · split <;> simp [this]
  apply Array.ext (by rw [h.size]; rfl)
  intro i h1 h3
  have hi : i < 45 := by rw [h.size] at h1; exact h1
  have e1 := h.list i hi
  rw [key i hi] at e1
  have e2 : listed[i] = decide (i < 40) := by simpa [h1] using e1
  rw [e2]
  have e3 : ∀ j : Fin 45, decide (j.val < 40) = (#[true, true, true, true, true, true, true, true, true, true, true, true, true, true, true, true, true, true, true, true, true, true, true, true, true, true, true, true, true, true, true, true, true, true, true, true, true, true, true, true, false, false, false, false, false] : Array Bool).getD j.val true := by decide
  have := e3 ⟨i, hi⟩
  rw [this, Array.getD_eq_getD_getElem?, Array.getElem?_eq_getElem h3]
  rfl
theorem Five.act_end (h : Five B n wr E a0 v xs x st bs ps gs listed a w) (h2 : ∀ c, c < 5 → st c = 2) (hsz : 80 ≤ a0.tmps.size) :
    a = (((((((((a0.put (some 40) (bs 0)).put (some 41) (ps 0)).put (some 48) (bs 1)).put (some 49) (ps 1)).put (some 56) (bs 2)).put (some 57) (ps 2)).put (some 64) (bs 3)).put (some 65) (ps 3)).put (some 72) (bs 4)).put (some 73) (ps 4) := by
  have hp : ∀ (b : Act) (d : Option Tmp) (u : Value), (b.put d u).tmps.size = b.tmps.size ∧ (b.put d u).defers = b.defers := by
    intro b d u; cases d <;> simp [Act.put]
  have ht : a.tmps = ((((((((((a0.put (some 40) (bs 0)).put (some 41) (ps 0)).put (some 48) (bs 1)).put (some 49) (ps 1)).put (some 56) (bs 2)).put (some 57) (ps 2)).put (some 64) (bs 3)).put (some 65) (ps 3)).put (some 72) (bs 4)).put (some 73) (ps 4)).tmps := by
    apply array_ext_getD
    · simp only [(hp _ _ _).1, h.fsize]
    · intro t
      rw [h.frame]
      repeat rw [put_getD _ _ _ _ (by first | omega | (simp only [(hp _ _ _).1]; omega))]
      rcases five_class t with ⟨d, hd, rfl⟩ | ⟨d, hd, rfl⟩ | ⟨k1, k2⟩
      · rw [fiveT_A _ _ _ _ d hd, h2 d hd]
        have : d = 0 ∨ d = 1 ∨ d = 2 ∨ d = 3 ∨ d = 4 := by omega
        rcases this with rfl | rfl | rfl | rfl | rfl <;> simp
      · rw [fiveT_B _ _ _ _ d hd, h2 d hd]
        have : d = 0 ∨ d = 1 ∨ d = 2 ∨ d = 3 ∨ d = 4 := by omega
        rcases this with rfl | rfl | rfl | rfl | rfl <;> simp
      · rw [fiveT_C _ _ _ _ t k1 k2]
        have z0 := k1 0 (by omega); have z1 := k1 1 (by omega); have z2 := k1 2 (by omega); have z3 := k1 3 (by omega); have z4 := k1 4 (by omega)
        have b0 := k2 0 (by omega); have b1 := k2 1 (by omega); have b2 := k2 2 (by omega); have b3 := k2 3 (by omega); have b4 := k2 4 (by omega)
        simp at z0 z1 z2 z3 z4 b0 b1 b2 b3 b4
        simp [z0, z1, z2, z3, z4, b0, b1, b2, b3, b4]
  have hd : a.defers = ((((((((((a0.put (some 40) (bs 0)).put (some 41) (ps 0)).put (some 48) (bs 1)).put (some 49) (ps 1)).put (some 56) (bs 2)).put (some 57) (ps 2)).put (some 64) (bs 3)).put (some 65) (ps 3)).put (some 72) (bs 4)).put (some 73) (ps 4)).defers := by
    simp only [(hp _ _ _).2, h.defers]
  cases a
  simp only at ht hd
  rw [ht, hd]
end
theorem five_go {ops : Array Oper} {Q : Exit → Act → World → Prop} {S : World → Prop} {B n : Nat} {W0 : World} {a0 : Act} {v : Nat → Value} {xs : Nat → List Value} {x : Nat → Int} {listed : Array Bool} (F : FiveOps ops) (hl : listed.size = 45) (hlist : ((List.range 45).all fun i => listed.getD i true == fiveL (fun _ => 0) i) = true)
    (hS : ∀ w', Below B W0 w' → S w') (hBw : B ≤ W0.heap.size) (hsz : 80 ≤ a0.tmps.size) (hn : n ≤ 1000000)
    (hv : ∀ c, c < 5 → a0.tmps.getD (34 + 8 * c) undef = v c) (hx : ∀ c, c < 5 → a0.tmps.getD (39 + 8 * c) undef = .int .i64 (x c))
    (hown : ∀ c, c < 5 → W0.ownsRow B 3 1 (v c) n (xs c)) (hap : ∀ c, c < 5 → ∀ d, d < 5 → c ≠ d → ∀ g, (v c).ownBlock = some g → (v d).ownBlock ≠ some g)
    (hend : ∀ st bs ps gs listed a w, (∀ c, c < 5 → st c = 2) → Five B n W0 3 a0 v xs x st bs ps gs listed a w → wpAnyH Tryd.prog .any ops Q S 5 listed a w) : wpAnyH Tryd.prog .any ops Q S 15 listed a0 W0 :=
  five_walk F hS hBw hsz hn hv hx hend 10 _ _ _ _ _ _ _ (five_start hl hlist hown hap) rfl
theorem held45 {ops : Array Oper} {Q : Exit → Act → World → Prop} {S : World → Prop} {id : Nat} {a : Act} {w : World} (hs : ops.size = 45) (hm : Tryd.prog.follows .mixedOrders = true)
    (h : wpAnyH Tryd.prog .any ops Q S 45 (Array.replicate 45 false) a { w with drawn := w.drawn + 1 }) : (Code.region id ops true).wp Tryd.prog Q a w :=
  wp_region_held hm (by rw [hs]; exact h)
theorem any_edge {after : Array Edge} {k : Nat} (h : (after.any fun e => Region.binds .any e && e.on == k) = true) : ∃ e ∈ after, Region.binds .any e = true ∧ e.on = k := by
  rw [← Array.any_toList, List.any_eq_true] at h
  obtain ⟨e, he, hh⟩ := h
  simp only [Bool.and_eq_true, beq_iff_eq] at hh
  exact ⟨e, Array.mem_toList_iff.1 he, hh.1, hh.2⟩
end Go.Proofs.YtfgeocpooimojaaDoor
