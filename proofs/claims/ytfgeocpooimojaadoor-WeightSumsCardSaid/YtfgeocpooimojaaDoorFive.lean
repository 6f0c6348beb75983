/-
  Five slices of numbers are appended to in one statement whose order is open: whatever order is drawn, each row has grown by its number. Conditions: as each theorem states them.
-/
import Derived.Test.YtfgeocpooimojaaDoorWtot
import Derived.OrdersHeld
import Derived.Deep.AppendLies
namespace Go.Proofs.YtfgeocpooimojaaDoor
open Go Go.RowKit

def fiveL (st : Nat → Nat) (i : Nat) : Bool := if 40 ≤ i then false else if i % 8 = 6 then decide (1 ≤ st (i / 8)) else if i % 8 = 7 then decide (2 ≤ st (i / 8)) else true
def bump (st : Nat → Nat) (c : Nat) : Nat → Nat := fun d => if d = c then st c + 1 else st d
def fiveT (a0 : Act) (st : Nat → Nat) (bs ps : Nat → Value) (t : Nat) : Value :=
  if 40 ≤ t ∧ t < 80 ∧ t % 8 = 0 ∧ 1 ≤ st ((t - 40) / 8) then bs ((t - 40) / 8) else if 41 ≤ t ∧ t < 80 ∧ t % 8 = 1 ∧ 2 ≤ st ((t - 41) / 8) then ps ((t - 41) / 8) else a0.tmps.getD t undef
def curOf (st : Nat → Nat) (v ps : Nat → Value) (c : Nat) : Value := if st c = 2 then ps c else v c

structure Five (B n : Nat) (wr : World) (E : TypeId) (a0 : Act) (v : Nat → Value) (xs : Nat → List Value) (x : Nat → Int) (st : Nat → Nat) (bs ps : Nat → Value) (gs : Nat → Nat) (listed : Array Bool) (a : Act) (w : World) : Prop where
  size : listed.size = 45
  list : ∀ i, i < 45 → listed.getD i true = fiveL st i
  st2 : ∀ c, c < 5 → st c ≤ 2
  fsize : a.tmps.size = a0.tmps.size
  defers : a.defers = a0.defers
  frame : ∀ t, a.tmps.getD t undef = fiveT a0 st bs ps t
  below : Below B wr w
  row0 : ∀ c, c < 5 → st c ≤ 1 → w.ownsRow B E 1 (v c) n (xs c)
  tmp : ∀ c, c < 5 → st c = 1 → bs c = .slice (some ⟨gs c, 0, none⟩) 1 1 ∧ Blk w (gs c) E #[.int .i64 (x c)]
  row2 : ∀ c, c < 5 → st c = 2 → w.ownsRow B E 1 (ps c) (n + 1) (xs c ++ [.int .i64 (x c)])
  dis : ∀ c, c < 5 → ∀ d, d < 5 → c ≠ d → ∀ g, (curOf st v ps c).ownBlock = some g → (curOf st v ps d).ownBlock ≠ some g
  dist : ∀ c, c < 5 → ∀ d, d < 5 → st c = 1 → (curOf st v ps d).ownBlock ≠ some (gs c)
  ord : ∀ c, 0 < c → c < 5 → st c = 2 → st (c - 1) = 2

theorem fiveT_old (a0 : Act) (st : Nat → Nat) (bs ps : Nat → Value) (c : Nat) (r : Nat) (h : r = 34 ∨ r = 39) : fiveT a0 st bs ps (r + 8 * c) = a0.tmps.getD (r + 8 * c) undef := by
  unfold fiveT
  rw [if_neg (by omega), if_neg (by omega)]
theorem fiveT_bs (a0 : Act) (st : Nat → Nat) (bs ps : Nat → Value) (c : Nat) (hc : c < 5) (h : 1 ≤ st c) : fiveT a0 st bs ps (40 + 8 * c) = bs c := by
  unfold fiveT
  have e : (40 + 8 * c - 40) / 8 = c := by omega
  rw [e, if_pos ⟨by omega, by omega, by omega, h⟩]
theorem fiveL_at (st : Nat → Nat) (c : Nat) (hc : c < 5) : fiveL st (6 + 8 * c) = decide (1 ≤ st c) ∧ fiveL st (7 + 8 * c) = decide (2 ≤ st c) := by
  unfold fiveL
  have e1 : (6 + 8 * c) / 8 = c := by omega
  have e2 : (7 + 8 * c) / 8 = c := by omega
  rw [e1, e2, if_neg (by omega), if_pos (by omega), if_neg (by omega), if_neg (by omega), if_pos (by omega)]
  exact ⟨rfl, rfl⟩
theorem five_cases (st : Nat → Nat) (i : Nat) (hi : i < 45) (h : fiveL st i = false) : 40 ≤ i ∨ ∃ c, c < 5 ∧ ((i = 6 + 8 * c ∧ st c = 0) ∨ (i = 7 + 8 * c ∧ st c ≤ 1)) := by
  unfold fiveL at h
  by_cases h1 : 40 ≤ i
  · exact .inl h1
  · rw [if_neg h1] at h
    by_cases h2 : i % 8 = 6
    · rw [if_pos h2] at h
      simp at h
      exact .inr ⟨i / 8, by omega, .inl ⟨by omega, h⟩⟩
    · rw [if_neg h2] at h
      by_cases h3 : i % 8 = 7
      · rw [if_pos h3] at h
        simp at h
        exact .inr ⟨i / 8, by omega, .inr ⟨by omega, by omega⟩⟩
      · rw [if_neg h3] at h; cases h
theorem fiveL_bump (st : Nat → Nat) (c : Nat) (hc : c < 5) (i : Nat) : (st c = 0 → (if i = 6 + 8 * c then true else fiveL st i) = fiveL (bump st c) i) ∧ (st c = 1 → (if i = 7 + 8 * c then true else fiveL st i) = fiveL (bump st c) i) := by
  have hb : ∀ d, bump st c d = if d = c then st c + 1 else st d := fun _ => rfl
  refine ⟨fun h0 => ?_, fun h1 => ?_⟩
  · by_cases hi : i = 6 + 8 * c
    · rw [if_pos hi, hi, (fiveL_at _ c hc).1, hb, if_pos rfl, h0]; rfl
    · rw [if_neg hi]
      unfold fiveL
      split
      · rfl
      · split
        · have : i / 8 ≠ c := by omega
          rw [hb, if_neg this]
        · split
          · rw [hb]
            by_cases e : i / 8 = c
            · rw [if_pos e, e, h0]; rfl
            · rw [if_neg e]
          · rfl
  · by_cases hi : i = 7 + 8 * c
    · rw [if_pos hi, hi, (fiveL_at _ c hc).2, hb, if_pos rfl, h1]; rfl
    · rw [if_neg hi]
      unfold fiveL
      split
      · rfl
      · split
        · rw [hb]
          by_cases e : i / 8 = c
          · rw [if_pos e, e, h1]; rfl
          · rw [if_neg e]
        · split
          · have : i / 8 ≠ c := by omega
            rw [hb, if_neg this]
          · rfl
theorem put_getD (a : Act) (d : Nat) (u : Value) (t : Nat) (hd : d < a.tmps.size) : (a.put (some d) u).tmps.getD t undef = if t = d then u else a.tmps.getD t undef := by
  show (a.tmps.setIfInBounds d u).getD t undef = _
  by_cases h : t = d
  · subst h; simp [hd]
  · rw [if_neg h]
    simp [Array.getElem?_setIfInBounds_ne (Ne.symm h)]
theorem fiveT_A (a0 : Act) (st : Nat → Nat) (bs ps : Nat → Value) (d : Nat) (hd : d < 5) : fiveT a0 st bs ps (40 + 8 * d) = if 1 ≤ st d then bs d else a0.tmps.getD (40 + 8 * d) undef := by
  unfold fiveT
  have e : (40 + 8 * d - 40) / 8 = d := by omega
  rw [e]
  by_cases h : 1 ≤ st d
  · rw [if_pos ⟨by omega, by omega, by omega, h⟩, if_pos h]
  · rw [if_neg (fun k => h k.2.2.2), if_neg (by omega), if_neg h]
theorem fiveT_B (a0 : Act) (st : Nat → Nat) (bs ps : Nat → Value) (d : Nat) (hd : d < 5) : fiveT a0 st bs ps (41 + 8 * d) = if 2 ≤ st d then ps d else a0.tmps.getD (41 + 8 * d) undef := by
  unfold fiveT
  have e : (41 + 8 * d - 41) / 8 = d := by omega
  rw [e, if_neg (by omega)]
  by_cases h : 2 ≤ st d
  · rw [if_pos ⟨by omega, by omega, by omega, h⟩, if_pos h]
  · rw [if_neg (fun k => h k.2.2.2), if_neg h]
theorem fiveT_C (a0 : Act) (st : Nat → Nat) (bs ps : Nat → Value) (t : Nat) (h1 : ∀ d, d < 5 → t ≠ 40 + 8 * d) (h2 : ∀ d, d < 5 → t ≠ 41 + 8 * d) : fiveT a0 st bs ps t = a0.tmps.getD t undef := by
  unfold fiveT
  rw [if_neg (fun k => h1 ((t - 40) / 8) (by omega) (by omega)), if_neg (fun k => h2 ((t - 41) / 8) (by omega) (by omega))]
theorem five_class (t : Nat) : (∃ d, d < 5 ∧ t = 40 + 8 * d) ∨ (∃ d, d < 5 ∧ t = 41 + 8 * d) ∨ ((∀ d, d < 5 → t ≠ 40 + 8 * d) ∧ (∀ d, d < 5 → t ≠ 41 + 8 * d)) := by
  by_cases h1 : 40 ≤ t ∧ t < 80 ∧ t % 8 = 0
  · exact .inl ⟨(t - 40) / 8, by omega, by omega⟩
  · by_cases h2 : 41 ≤ t ∧ t < 80 ∧ t % 8 = 1
    · exact .inr (.inl ⟨(t - 41) / 8, by omega, by omega⟩)
    · exact .inr (.inr ⟨fun d hd e => by omega, fun d hd e => by omega⟩)
theorem fiveT_bump (a0 : Act) (st : Nat → Nat) (bs ps : Nat → Value) (c : Nat) (hc : c < 5) (u : Value) (t : Nat) :
    (st c = 0 → (if t = 40 + 8 * c then u else fiveT a0 st bs ps t) = fiveT a0 (bump st c) (fun d => if d = c then u else bs d) ps t) ∧ (st c = 1 → (if t = 41 + 8 * c then u else fiveT a0 st bs ps t) = fiveT a0 (bump st c) bs (fun d => if d = c then u else ps d) t) := by
  have hb : ∀ d, bump st c d = if d = c then st c + 1 else st d := fun _ => rfl
  rcases five_class t with ⟨d, hd, rfl⟩ | ⟨d, hd, rfl⟩ | ⟨h1, h2⟩
  · rw [fiveT_A _ _ _ _ d hd, fiveT_A _ _ _ _ d hd, fiveT_A _ _ _ _ d hd, hb]
    by_cases e : d = c
    · subst e
      exact ⟨fun h => by simp [h], fun h => by rw [if_neg (by omega), if_pos rfl, h]; rfl⟩
    · exact ⟨fun h => by rw [if_neg (by omega), if_neg e, if_neg e], fun h => by rw [if_neg (by omega), if_neg e]⟩
  · rw [fiveT_B _ _ _ _ d hd, fiveT_B _ _ _ _ d hd, fiveT_B _ _ _ _ d hd, hb]
    by_cases e : d = c
    · subst e
      exact ⟨fun h => by rw [if_neg (by omega), if_pos rfl, h]; rfl, fun h => by simp [h]⟩
    · exact ⟨fun h => by rw [if_neg (by omega), if_neg e], fun h => by rw [if_neg (by omega), if_neg e, if_neg e]⟩
  · rw [fiveT_C _ _ _ _ t h1 h2, fiveT_C _ _ _ _ t h1 h2, fiveT_C _ _ _ _ t h1 h2]
    exact ⟨fun _ => if_neg (h1 c hc), fun _ => if_neg (h2 c hc)⟩

section
variable {B n : Nat} {wr : World} {E : TypeId} {a0 : Act} {v : Nat → Value} {xs : Nat → List Value} {x : Nat → Int} {st : Nat → Nat} {bs ps : Nat → Value} {gs : Nat → Nat} {listed : Array Bool} {a : Act} {w : World}
theorem set_getD (l : Array Bool) (i j : Nat) (h : i < l.size) : (l.setIfInBounds i true).getD j true = if j = i then true else l.getD j true := by
  by_cases e : j = i
  · subst e; simp [h]
  · rw [if_neg e, getD_set_ne true (Ne.symm e)]
theorem bump_self (st : Nat → Nat) (c : Nat) : bump st c c = st c + 1 := if_pos rfl
theorem bump_ne (st : Nat → Nat) {c d : Nat} (h : d ≠ c) : bump st c d = st d := if_neg h
theorem Five.lt (h : Five B n wr E a0 v xs x st bs ps gs listed a w) {c : Nat} (hc : c < 5) {g : Nat} (hg : (curOf st v ps c).ownBlock = some g) : B ≤ g ∧ g < w.heap.size := by
  unfold curOf at hg
  split at hg
  · rename_i e; exact (h.row2 c hc e).lt g hg
  · rename_i e; exact (h.row0 c hc (by have := h.st2 c hc; omega)).lt g hg
theorem Five.built (h : Five B n wr E a0 v xs x st bs ps gs listed a w) {c : Nat} (hc : c < 5) (h0 : st c = 0) (hBw : B ≤ wr.heap.size) (hsz : 80 ≤ a0.tmps.size) :
    Five B n wr E a0 v xs x (bump st c) (fun d => if d = c then .slice (some ⟨w.heap.size, 0, none⟩) 1 1 else bs d) ps (fun d => if d = c then w.heap.size else gs d) (listed.setIfInBounds (6 + 8 * c) true) (a.put (some (40 + 8 * c)) (.slice (some ⟨w.heap.size, 0, none⟩) 1 1)) (w.alloc (.cells #[.int .i64 (x c)] E)) := by
  have hcur : ∀ d, curOf (bump st c) v ps d = curOf st v ps d := by
    intro d
    unfold curOf
    by_cases e : d = c
    · subst e; rw [bump_self, h0]; rfl
    · rw [bump_ne st e]
  have hBs : B ≤ w.heap.size := Nat.le_trans hBw h.below.size
  refine ⟨by simp [h.size], fun i hi => ?_, fun d hd => ?_, by simp [Act.put, h.fsize], h.defers, fun t => ?_, h.below.alloc hBs _, fun d hd hs => ?_, fun d hd hs => ?_, fun d hd hs => ?_, fun d hd e he hne g hg => ?_, fun d hd e he hs => ?_, fun d hd0 hd hs => ?_⟩
  · rw [set_getD _ _ _ (by rw [h.size]; omega), ← (fiveL_bump st c hc i).1 h0, h.list i hi]
  · by_cases e : d = c
    · subst e; rw [bump_self]; omega
    · rw [bump_ne st e]; exact h.st2 d hd
  · rw [put_getD _ _ _ _ (by rw [h.fsize]; omega), h.frame t]
    exact (fiveT_bump a0 st bs ps c hc _ t).1 h0
  · refine (h.row0 d hd ?_).alloc _
    by_cases e : d = c
    · subst e; omega
    · rw [bump_ne st e] at hs; exact hs
  · by_cases e : d = c
    · subst e; simp only [if_true]; exact ⟨trivial, Blk.new w _ _⟩
    · rw [bump_ne st e] at hs
      simp only [if_neg e]
      exact ⟨(h.tmp d hd hs).1, (h.tmp d hd hs).2.alloc _⟩
  · by_cases e : d = c
    · subst e; rw [bump_self] at hs; omega
    · rw [bump_ne st e] at hs; exact (h.row2 d hd hs).alloc _
  · rw [hcur] at hg ⊢; exact h.dis d hd e he hne g hg
  · rw [hcur]
    by_cases e2 : d = c
    · subst e2
      simp only [if_true]
      intro hg
      have := (h.lt he hg).2
      omega
    · rw [bump_ne st e2] at hs
      simp only [if_neg e2]
      exact h.dist d hd e he hs
  · by_cases e : d = c
    · subst e; rw [bump_self] at hs; omega
    · rw [bump_ne st e] at hs
      have h2 := h.ord d hd0 hd hs
      by_cases e2 : d - 1 = c
      · rw [e2] at h2; omega
      · rw [bump_ne st e2]; exact h2
theorem Five.appended (h : Five B n wr E a0 v xs x st bs ps gs listed a w) {c : Nat} (hc : c < 5) (h1 : st c = 1) (hprev : 0 < c → st (c - 1) = 2) (hBw : B ≤ wr.heap.size) (hsz : 80 ≤ a0.tmps.size) {g cap : Nat} {w' : World}
    (hown : w'.ownsRow B E 1 (.slice (some ⟨g, 0, none⟩) (n + 1) cap) (n + 1) (xs c ++ [.int .i64 (x c)])) (hg : w.grownBy w' (v c).ownBlock) (hat : (v c).ownBlock = some g ∨ g = w.heap.size) :
    Five B n wr E a0 v xs x (bump st c) bs (fun d => if d = c then .slice (some ⟨g, 0, none⟩) (n + 1) cap else ps d) gs (listed.setIfInBounds (7 + 8 * c) true) (a.put (some (41 + 8 * c)) (.slice (some ⟨g, 0, none⟩) (n + 1) cap)) w' := by
  have hcur : ∀ d, d ≠ c → curOf (bump st c) v (fun d => if d = c then .slice (some ⟨g, 0, none⟩) (n + 1) cap else ps d) d = curOf st v ps d := by
    intro d e
    unfold curOf
    rw [bump_ne st e]
    simp only [if_neg e]
  have hcc : curOf st v ps c = v c := by unfold curOf; rw [h1]; rfl
  have hnew : (curOf (bump st c) v (fun d => if d = c then .slice (some ⟨g, 0, none⟩) (n + 1) cap else ps d) c).ownBlock = some g := by
    unfold curOf; rw [bump_self, h1]; simp [Value.ownBlock]
  have hBs : B ≤ w.heap.size := Nat.le_trans hBw h.below.size
  have hfar : ∀ d, d < 5 → d ≠ c → (curOf st v ps d).ownBlock = none ∨ (curOf st v ps d).ownBlock ≠ (v c).ownBlock := by
    intro d hd e
    cases hv : (curOf st v ps d).ownBlock with
    | none => exact .inl rfl
    | some g' =>
      refine .inr fun he => ?_
      have := h.dis d hd c hc e g' hv
      rw [hcc] at this
      exact this he.symm
  refine ⟨by simp [h.size], fun i hi => ?_, fun d hd => ?_, by simp [Act.put, h.fsize], h.defers, fun t => ?_, h.below.grown hg hBs (fun k hk => (h.lt hc (by rw [hcc]; exact hk)).1), fun d hd hs => ?_, fun d hd hs => ?_, fun d hd hs => ?_, fun d hd e he hne g' hg' => ?_, fun d hd e he hs => ?_, fun d hd0 hd hs => ?_⟩
  · rw [set_getD _ _ _ (by rw [h.size]; omega), ← (fiveL_bump st c hc i).2 h1, h.list i hi]
  · by_cases e : d = c
    · subst e; rw [bump_self]; omega
    · rw [bump_ne st e]; exact h.st2 d hd
  · rw [put_getD _ _ _ _ (by rw [h.fsize]; omega), h.frame t]
    exact (fiveT_bump a0 st bs ps c hc _ t).2 h1
  · by_cases e : d = c
    · subst e; rw [bump_self] at hs; omega
    · rw [bump_ne st e] at hs
      have hv : curOf st v ps d = v d := by unfold curOf; rw [if_neg (by omega)]
      have := hfar d hd e
      rw [hv] at this
      exact (h.row0 d hd hs).kept hg this
  · by_cases e : d = c
    · subst e; rw [bump_self] at hs; omega
    · rw [bump_ne st e] at hs
      refine ⟨(h.tmp d hd hs).1, (h.tmp d hd hs).2.grown hg (fun he => ?_)⟩
      have := h.dist d hd c hc hs
      rw [hcc] at this
      exact this he.symm
  · by_cases e : d = c
    · subst e; simp only [if_true]; exact hown
    · rw [bump_ne st e] at hs
      simp only [if_neg e]
      have hv : curOf st v ps d = ps d := by unfold curOf; rw [if_pos hs]
      have := hfar d hd e
      rw [hv] at this
      exact (h.row2 d hd hs).kept hg this
  · by_cases e1 : d = c
    · subst e1
      rw [hnew] at hg'
      obtain rfl : g = g' := by injection hg'
      rw [hcur e (Ne.symm hne)]
      rcases hat with hat | hat
      · have := h.dis d hd e he hne g (by rw [hcc]; exact hat)
        exact this
      · intro hx
        have := (h.lt he hx).2
        omega
    · rw [hcur d e1] at hg'
      by_cases e2 : e = c
      · subst e2
        rw [hnew]
        intro hx
        obtain rfl : g = g' := by injection hx
        rcases hat with hat | hat
        · have := h.dis d hd e he hne g hg'
          rw [hcc] at this
          exact this hat
        · have := (h.lt hd hg').2
          omega
      · rw [hcur e e2]; exact h.dis d hd e he hne g' hg'
  · by_cases e1 : d = c
    · subst e1; rw [bump_self] at hs; omega
    · rw [bump_ne st e1] at hs
      by_cases e2 : e = c
      · subst e2
        rw [hnew]
        intro hx
        have hx : g = gs d := by injection hx
        rcases hat with hat | hat
        · have := h.dist d hd e he hs
          rw [hcc, hat, hx] at this
          exact this rfl
        · have := (h.tmp d hd hs).2.lt
          omega
      · rw [hcur e e2]; exact h.dist d hd e he hs
  · by_cases e : d = c
    · subst e
      rw [bump_ne st (by omega)]
      exact hprev hd0
    · rw [bump_ne st e] at hs
      have h2 := h.ord d hd0 hd hs
      by_cases e2 : d - 1 = c
      · rw [e2] at h2; omega
      · rw [bump_ne st e2]; exact h2
end
end Go.Proofs.YtfgeocpooimojaaDoor
