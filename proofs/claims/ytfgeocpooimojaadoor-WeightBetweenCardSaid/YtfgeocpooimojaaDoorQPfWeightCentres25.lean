/-
  over of package ratio: the exact quotient. Conditions: as each theorem states them. Regions that draw their order, whose last operations store into what the others have read: the reads and calls are taken first, under facts that hold until the first store. Conditions: as each theorem states them.
-/
import Derived.Test.YtfgeocpooimojaaDoorQPfWeightCentres22
namespace Go.Proofs.YtfgeocpooimojaaDoor
open Go Go.RowKit

set_option maxHeartbeats 1000000 in
theorem ratioOver_at (n : Bool) (x g q : Nat) (hx : x < 18446744073709551616) (hg : g < 9223372036854775808) (hg0 : 0 < g) (hq : x = g * q) (w : World) :
    Calls Tryd.prog 81 #[.agg (wideS n x), .agg (wideS false g)] w fun e w' => e = .returned (.agg (wideS (sgn n q) q)) ∧ Below w.heap.size w w' := by
  have C := Lib.hid (wideDiv_at n x g q hx hg hg0 hq)
  have HB := Lib.hid (blk_start3 w 35 35 35 (wideS n x) (wideS false g) wideZ)
  clear hx hg hg0 hq
  go_enter Tryd.func81, Tryd.ntmps81
  go_wp2_with fail
  refine (C.out _).mono ?_
  rintro e w1 ⟨rfl, hb1⟩
  have K3 := Lib.hid (HB.out.2.2.below hb1 HB.out.2.2.lt)
  have Hb1 : Hid (Below w.heap.size w w1) := Lib.hid (Below.trans (by go_grown) (hb1.mono (by simp; omega)))
  clear hb1 HB C
  have l3 := K3.out.lt
  have l3' : w.heap.size + 1 + 1 < w1.heap.size + 1 := by omega
  have J3 := Lib.hid ((K3.out.alloc (.cells (wideS (sgn n q) q) 35)).alloc (.cells #[.bool false, .int .u64 0, .int .u64 0, .int .u64 0, .int .u64 0] 35))
  have Hb2 : Hid (Below w.heap.size w ((w1.alloc (.cells (wideS (sgn n q) q) 35)).alloc (.cells #[.bool false, .int .u64 0, .int .u64 0, .int .u64 0, .int .u64 0] 35))) := by
    have := Hb1.out
    have := this.size
    unfold Hid
    go_grown
  clear l3 l3' K3 Hb1
  go_wp2_with (refine wpList_store_row rfl 35 (.tmp 4) (.tmp 15) rfl (w.heap.size + 1 + 1) (wideS (sgn n q) q) rfl rfl 35 wideZ J3.out (zero_of_info Tryd.infoWid).2 rfl (wideS_one _ _) ?_)
  refine bodyPost_ret (results_cell_one rfl _ _ (w.heap.size + 1 + 1) 35 (wideS (sgn n q) q) _ rfl (J3.out.setRow _) Tryd.underlying35 rfl (by kernel_rfl)) rfl ⟨rfl, below_setRow Hb2.out (by omega) _⟩
end Go.Proofs.YtfgeocpooimojaaDoor
namespace Go.Proofs.YtfgeocpooimojaaDoor
open Go Go.RowKit

section
variable {P : Program} {ops : Array Oper} {Q : Exit → Act → World → Prop} {md : Region.Mode} {S0 F : World → Prop} {s : Nat}
/-- Always S0; and F until operation s has come up. -/
def Until (S0 F : World → Prop) (s : Nat) (listed : Array Bool) (w : World) : Prop := S0 w ∧ (listed.getD s true = false → F w)
def wpAnyT (P : Program) (md : Region.Mode) (ops : Array Oper) (Q : Exit → Act → World → Prop) (S0 F : World → Prop) (s : Nat) : Nat → Array Bool → Act → World → Prop
  | 0, listed, a, w => ∀ w1, Below w.heap.size w w1 → Region.ready md ops listed = [] ∧ Q .normal a w1
  | fuel + 1, listed, a, w => ∀ w1, Below w.heap.size w w1 →
    (Region.ready md ops listed = [] → Q .normal a w1) ∧
    ∀ i ∈ Region.ready md ops listed, wpOp P ops Q i (fun a' w' => Until S0 F s (listed.setIfInBounds i true) w' ∧ wpAnyT P md ops Q S0 F s fuel (listed.setIfInBounds i true) a' w') a w1
theorem wpAnyT_mono : ∀ (fuel : Nat) {listed : Array Bool} {a : Act} {w w1 : World}, wpAnyT P md ops Q S0 F s fuel listed a w → Below w.heap.size w w1 → wpAnyT P md ops Q S0 F s fuel listed a w1
  | 0, _, _, _, _, h, hb => fun w2 h2 => h w2 (Below.later hb h2)
  | _ + 1, _, _, _, _, h, hb => fun w2 h2 => h w2 (Below.later hb h2)
theorem wpAny_of_T : ∀ (fuel : Nat) (listed : Array Bool) (a : Act) (w : World), wpAnyT P md ops Q S0 F s fuel listed a w → wpAny P md ops Q fuel listed a w
  | 0, _, _, w, h => h w (Below.refl _ _)
  | fuel + 1, _, _, w, h => ⟨(h w (Below.refl _ _)).1, fun i hi => wpOp_mono (fun a' w' h' => wpAny_of_T fuel _ a' w' h'.2) ((h w (Below.refl _ _)).2 i hi)⟩
/-- What has come up, with all that it waits for. -/
def Closed (md : Region.Mode) (ops : Array Oper) (listed : Array Bool) : Prop := ∀ j oj, ops[j]? = some oj → listed.getD j true = true → ∀ e ∈ oj.after, Region.binds md e = true → listed.getD e.on false = true
theorem Closed.set_ {listed : Array Bool} {j : Nat} (h : Closed md ops listed) (hj : j ∈ Region.ready md ops listed) : Closed md ops (listed.setIfInBounds j true) := by
  obtain ⟨_, oj, hoj, hall⟩ := mem_ready.1 hj
  intro k ok hk hl e he hb
  refine getD_set_true ?_
  by_cases hkj : j = k
  · subst hkj
    rw [hoj] at hk
    obtain rfl := Option.some.inj hk
    exact hall e he hb
  · rw [getD_set_ne true hkj] at hl
    exact h k ok hk hl e he hb
/-- Operation a waits for operation b. -/
def edgeB (md : Region.Mode) (ops : Array Oper) (a b : Nat) : Bool := match ops[a]? with | some o => o.after.any fun e => Region.binds md e && e.on == b | none => false
theorem edge_un {a b : Nat} (h : edgeB md ops a b = true) {listed : Array Bool} (hc : Closed md ops listed) (hb : listed.getD b true = false) : listed.getD a true = false := by
  unfold edgeB at h
  cases ho : ops[a]? with
  | none => rw [ho] at h; cases h
  | some o =>
    rw [ho] at h
    simp only at h
    rw [← Array.any_toList, List.any_eq_true] at h
    obtain ⟨e, he, hh⟩ := h
    simp only [Bool.and_eq_true, beq_iff_eq] at hh
    cases h : listed.getD a true
    · rfl
    · exfalso
      have := hc a o ho h e (Array.mem_toList_iff.1 he) hh.1
      rw [hh.2] at this
      rcases Nat.lt_or_ge b listed.size with h' | h'
      · simp [h'] at hb this; rw [hb] at this; cases this
      · simp [Array.getElem?_eq_none h'] at this
/-- .. or for one that waits for it. -/
def edge2B (md : Region.Mode) (ops : Array Oper) (a b : Nat) : Bool := edgeB md ops a b || (List.range ops.size).any fun j => edgeB md ops a j && edgeB md ops j b
theorem edge2_un {a b : Nat} (h : edge2B md ops a b = true) {listed : Array Bool} (hc : Closed md ops listed) (hb : listed.getD b true = false) : listed.getD a true = false := by
  unfold edge2B at h
  rw [Bool.or_eq_true, List.any_eq_true] at h
  rcases h with h | ⟨j, _, h⟩
  · exact edge_un h hc hb
  · rw [Bool.and_eq_true] at h
    exact edge_un h.1 hc (edge_un h.2 hc hb)
theorem wpAnyT_first {i : Nat} {oi : Oper} {v : Value} (hi : ops[i]? = some oi) (hsel : ∀ (j : Nat) (o : Oper) cs b, ops[j]? = some o → o.op ≠ .select cs b)
    (hQ : ∀ c a w, Q (.panic c) (a.put oi.dst v) w → Q (.panic c) a w) (h0c : ∀ w w', S0 w → Below w.heap.size w w' → S0 w') (hFc : ∀ w w', F w → Below w.heap.size w w' → F w')
    (notS : ∀ listed : Array Bool, Closed md ops listed → listed.getD i true = false → listed.getD s true = false) (his : i ≠ s) :
    ∀ (fuel : Nat) (listed : Array Bool) (a : Act) (w : World), Closed md ops listed →
      (∀ j oj, ops[j]? = some oj → j ≠ i → listed.getD j true = false → (∀ e ∈ oj.after, Region.binds md e = true → e.on ≠ i) → oi.apart ops oj = true) →
      i ∈ Region.ready md ops listed → YieldsL P ops (fun w => S0 w ∧ F w) oi v a → S0 w → F w →
      wpAnyT P md ops Q S0 F s fuel (listed.setIfInBounds i true) (a.put oi.dst v) w → wpAnyT P md ops Q S0 F s (fuel + 1) listed a w := by
  intro fuel
  induction fuel with
  | zero =>
    intro listed a w hc _ hr hy hS hF H w1 hb1
    refine ⟨fun h => (by rw [h] at hr; cases hr), fun j hj => ?_⟩
    by_cases hji : j = i
    · subst hji
      exact hy.wpOp hi ⟨h0c _ _ hS hb1, hFc _ _ hF hb1⟩ fun w' hb' => ⟨⟨h0c _ _ (h0c _ _ hS hb1) hb', fun _ => hFc _ _ (hFc _ _ hF hb1) hb'⟩, wpAnyT_mono 0 H (Below.later hb1 hb')⟩
    · have := ready_mono hj hji
      rw [(H w1 hb1).1] at this
      cases this
  | succ fuel ih =>
    intro listed a w hc hfree hr hy hS hF H w1 hb1
    refine ⟨fun h => (by rw [h] at hr; cases hr), fun j hj => ?_⟩
    by_cases hji : j = i
    · subst hji
      exact hy.wpOp hi ⟨h0c _ _ hS hb1, hFc _ _ hF hb1⟩ fun w' hb' => ⟨⟨h0c _ _ (h0c _ _ hS hb1) hb', fun _ => hFc _ _ (hFc _ _ hF hb1) hb'⟩, wpAnyT_mono (fuel + 1) H (Below.later hb1 hb')⟩
    · have h1 := (H w1 hb1).2 j (ready_mono hj hji)
      obtain ⟨hjun, oj, hoj, hall⟩ := mem_ready.1 hj
      have hnot : ∀ e ∈ oj.after, Region.binds md e = true → e.on ≠ i := fun e he hb heq => by
        have h1 := hall e he hb
        have h0 := (mem_ready.1 hr).1
        rw [heq] at h1
        rcases Nat.lt_or_ge i listed.size with h' | h'
        · simp [h'] at h0 h1; rw [h0] at h1; cases h1
        · simp [Array.getElem?_eq_none h'] at h1
      have h2 := wpOp_putL hoj (hfree j oj hoj hji hjun hnot) (fun cs b => hsel i oi cs b hi) (fun cs b => hsel j oj cs b hoj) hQ hy h1
      have hfree' : ∀ k ok, ops[k]? = some ok → k ≠ i → (listed.setIfInBounds j true).getD k true = false →
          (∀ e ∈ ok.after, Region.binds md e = true → e.on ≠ i) → oi.apart ops ok = true := fun k ok hk hki hun hno => by
        refine hfree k ok hk hki ?_ hno
        by_cases hjk : j = k
        · subst hjk; exact hjun
        · rw [getD_set_ne true hjk] at hun; exact hun
      have hcj := hc.set_ hj
      have hij := ready_mono hr (Ne.symm hji)
      have hsu := notS _ hcj (mem_ready.1 hij).1
      refine wpOp_mono (fun a' w' h3 => ?_) h2
      obtain ⟨hy', ⟨hS', hF'⟩, hK⟩ := h3
      have hF2 : F w' := hF' (by rw [Array.setIfInBounds_comm _ _ (Ne.symm hji), getD_set_ne true his]; exact hsu)
      exact ⟨⟨hS', fun _ => hF2⟩, ih (listed.setIfInBounds j true) a' w' hcj hfree' hij hy' hS' hF2 (by rw [Array.setIfInBounds_comm _ _ hji]; exact hK)⟩
/-- 'Closed', for the kernel to reckon. -/
def closedB (md : Region.Mode) (ops : Array Oper) (listed : Array Bool) : Bool := (List.range ops.size).all fun j => !listed.getD j true || (match ops[j]? with | some oj => oj.after.all fun e => !Region.binds md e || listed.getD e.on false | none => true)
theorem closed_of {listed : Array Bool} (h : closedB md ops listed = true) : Closed md ops listed := by
  intro j oj hj hl e he hb
  unfold closedB at h
  rw [List.all_eq_true] at h
  have hj' := (Array.getElem?_eq_some_iff.1 hj).1
  have := h j (List.mem_range.2 hj')
  rw [hl, hj] at this
  simp only [Bool.not_true, Bool.false_or, Array.all_eq_true_iff_forall_mem] at this
  have := this e he
  rw [hb] at this
  simpa using this
theorem wpAnyT_take {i : Nat} {oi : Oper} {d : Tmp} {v : Value} {fuel : Nat} {listed : Array Bool} {a : Act} {w : World} (hi : ops[i]? = some oi) (hd : oi.dst = some d)
    (hs : Region.noSelect ops = true) (hf : Region.free md ops listed i = true) (hr : (Region.ready md ops listed).contains i = true) (hcl : closedB md ops listed = true) (hse : edge2B md ops s i = true) (his : i ≠ s)
    (hQ : ∀ c a w, Q (.panic c) (a.put oi.dst v) w → Q (.panic c) a w) (h0c : ∀ w w', S0 w → Below w.heap.size w w' → S0 w') (hFc : ∀ w w', F w → Below w.heap.size w w' → F w') (hy : YieldsL P ops (fun w => S0 w ∧ F w) oi v a) (hS : S0 w) (hF : F w)
    (h : wpAnyT P md ops Q S0 F s fuel (listed.setIfInBounds i true) (a.put (some d) v) w) : wpAnyT P md ops Q S0 F s (fuel + 1) listed a w := by
  exact wpAnyT_first hi (Region.noSelect_spec hs) hQ h0c hFc (fun _ hc hb => edge2_un hse hc hb) his fuel listed a w (closed_of hcl) (Region.free_spec hi hf) (by simpa using hr) hy hS hF (by rw [hd]; exact h)
theorem wp_region_T {id n : Nat} {a : Act} {w : World} (hs : ops.size = n) (hm : P.follows .mixedOrders = true)
    (h : wpAnyT P .any ops Q S0 F s n (Array.replicate n false) a { w with drawn := w.drawn + 1 }) : (Code.region id ops true).wp P Q a w :=
  wp_region_any hm (by rw [hs]; exact wpAny_of_T _ _ _ _ h)
theorem wpAnyT_past : ∀ (fuel : Nat) {listed : Array Bool} {a : Act} {w : World}, listed.getD s true = true → wpAnyK P md ops Q S0 fuel listed a w → wpAnyT P md ops Q S0 F s fuel listed a w
  | 0, _, _, _, _, h => h
  | fuel + 1, listed, _, _, hl, h => fun w1 hb => ⟨(h w1 hb).1, fun i hi => wpOp_mono (fun a' w' h' => by
      have hl' : (listed.setIfInBounds i true).getD s true = true := by
        by_cases e : i = s
        · subst e
          rcases Nat.lt_or_ge i listed.size with h' | h' <;> simp [h']
        · rw [getD_set_ne true e]; exact hl
      exact ⟨⟨h'.1, fun hf => by rw [hl'] at hf; cases hf⟩, wpAnyT_past fuel hl' h'.2⟩) ((h w1 hb).2 i hi)⟩
/-- Where operation s alone may come up, the rest is as under S0 alone. -/
theorem wpAnyT_to_K {fuel : Nat} {listed : Array Bool} {a : Act} {w : World} (hr : Region.ready md ops listed = [s]) (h : wpAnyK P md ops Q S0 (fuel + 1) listed a w) : wpAnyT P md ops Q S0 F s (fuel + 1) listed a w := by
  intro w1 hb
  refine ⟨(h w1 hb).1, fun i hi => ?_⟩
  have hi' := hi
  rw [hr, List.mem_singleton] at hi'
  subst hi'
  have hl' : (listed.setIfInBounds i true).getD i true = true := by rcases Nat.lt_or_ge i listed.size with h' | h' <;> simp [h']
  exact wpOp_mono (fun a' w' h' => ⟨⟨h'.1, fun hf => by rw [hl'] at hf; cases hf⟩, wpAnyT_past fuel hl' h'.2⟩) ((h w1 hb).2 i hi)
end
end Go.Proofs.YtfgeocpooimojaaDoor
