/-
  Sums and differences of numbers by their words. Conditions: as each theorem states them. Regions that draw their order: an operation that only reads, and a call that only makes memory and always returns the same value, may be taken first. Conditions: as each theorem states them.
-/
import Derived.OrdersHeld
import Derived.OpenShut
import Derived.Test.YtfgeocpooimojaaDoorQPfWeightCentres02
import Derived.Test.YtfgeocpooimojaaDoorQPfWeightCentres00
namespace Go.Proofs.YtfgeocpooimojaaDoor
open Go Go.RowKit

abbrev magC (M : Nat) : Array Value := #[.int .u64 (wd M 0 : Nat), .int .u64 (wd M 1 : Nat), .int .u64 (wd M 2 : Nat), .int .u64 (wd M 3 : Nat)]
theorem magC_get (M k : Nat) (h : k < 4) : (magC M)[k]? = some (.int .u64 (wd M k : Nat)) := by
  have : k = 0 ∨ k = 1 ∨ k = 2 ∨ k = 3 := by omega
  rcases this with rfl | rfl | rfl | rfl <;> rfl
theorem magC_digs (M : Nat) : digs 4 (wd M) = magC M := rfl
def top256 : Nat := 18446744073709551616 ^ 4
def pw (k : Nat) : Nat := 18446744073709551616 ^ k
theorem pw_pos (k : Nat) : 0 < pw k := Nat.pow_pos (by decide)
theorem pw_succ (k : Nat) : pw (k + 1) = pw k * 18446744073709551616 := by unfold pw; exact Nat.pow_succ ..
theorem wd_pw (M k : Nat) : wd M k = M / pw k % 18446744073709551616 := rfl
theorem mod_pw (M k : Nat) : M % pw (k + 1) = M % pw k + pw k * wd M k := by rw [pw_succ, Nat.mod_mul]; rfl
/-- The borrow into word k of A - B. -/
def brw (A B k : Nat) : Nat := if A % pw k < B % pw k then 1 else 0
theorem brw_le (A B k : Nat) : brw A B k ≤ 1 := by unfold brw; split <;> omega
theorem brw_zero (A B : Nat) : brw A B 0 = 0 := by simp [brw, pw, Nat.mod_one]
theorem brw_all (A B : Nat) (hA : A < top256) (hB : B < top256) : brw A B 4 = if A < B then 1 else 0 := by
  unfold brw
  have : pw 4 = top256 := rfl
  rw [this, Nat.mod_eq_of_lt hA, Nat.mod_eq_of_lt hB]
theorem lt_digits (p a b la lb : Nat) (h1 : la < p) (h2 : lb < p) : (la + p * a < lb + p * b) ↔ (a < b ∨ (a = b ∧ la < lb)) := by
  constructor
  · intro h
    rcases Nat.lt_trichotomy a b with h' | h' | h'
    · exact .inl h'
    · subst h'; exact .inr ⟨rfl, by omega⟩
    · have := Nat.mul_le_mul_left p (show b + 1 ≤ a by omega)
      rw [Nat.mul_add] at this
      omega
  · rintro (h | ⟨rfl, h⟩)
    · have := Nat.mul_le_mul_left p (show a + 1 ≤ b by omega)
      rw [Nat.mul_add] at this
      omega
    · omega
theorem sub_step (A B k : Nat) (hk : k < 4) (hB : B < top256) :
    wd (A + top256 - B) k = (wd A k + 18446744073709551616 - wd B k - brw A B k) % 18446744073709551616 ∧ brw A B (k + 1) = if wd A k < wd B k + brw A B k then 1 else 0 := by
  have hp := pw_pos k
  have hA' := Nat.div_add_mod A (pw k)
  have hB' := Nat.div_add_mod B (pw k)
  have hla := Nat.mod_lt A hp
  have hlb := Nat.mod_lt B hp
  have hq : top256 = pw k * (pw (3 - k) * 18446744073709551616) := by
    unfold pw top256
    rw [← Nat.pow_succ, ← Nat.pow_add]
    congr 1
    omega
  have hY : B / pw k < pw (3 - k) * 18446744073709551616 := by
    rw [Nat.div_lt_iff_lt_mul hp, Nat.mul_comm, ← hq]; exact hB
  refine ⟨?_, ?_⟩
  · have hc := brw_le A B k
    obtain ⟨Z, hZ⟩ : ∃ Z, A / pw k + pw (3 - k) * 18446744073709551616 = B / pw k + brw A B k + Z := ⟨A / pw k + pw (3 - k) * 18446744073709551616 - (B / pw k + brw A B k), by generalize A / pw k = X at *; generalize B / pw k = Y at *; omega⟩
    have e := congrArg (pw k * ·) hZ
    simp only [Nat.mul_add] at e
    have hD : A + top256 - B = (A % pw k + pw k * brw A B k - B % pw k) + pw k * Z := by
      rw [hq]
      unfold brw at e ⊢
      split at e
      · rw [if_pos (by assumption)]; omega
      · rw [if_neg (by assumption)]; omega
    have hr : A % pw k + pw k * brw A B k - B % pw k < pw k := by
      unfold brw
      split <;> omega
    rw [wd_pw, hD, Nat.add_mul_div_left _ _ hp, Nat.div_eq_of_lt hr, Nat.zero_add, wd_pw, wd_pw]
    omega
  · unfold brw
    rw [mod_pw, mod_pw]
    have := lt_digits (pw k) (wd A k) (wd B k) (A % pw k) (B % pw k) hla hlb
    by_cases h : A % pw k < B % pw k
    · rw [if_pos h]
      by_cases h2 : wd A k < wd B k + 1
      · rw [if_pos h2, if_pos (this.2 (by omega))]
      · rw [if_neg h2, if_neg (fun h3 => by have := this.1 h3; omega)]
    · rw [if_neg h]
      by_cases h2 : wd A k < wd B k + 0
      · rw [if_pos h2, if_pos (this.2 (by omega))]
      · rw [if_neg h2, if_neg (fun h3 => by have := this.1 h3; omega)]
/-- The carry into word k of A + B. -/
def cry (A B k : Nat) : Nat := (A % pw k + B % pw k) / pw k
theorem cry_le (A B k : Nat) : cry A B k ≤ 1 := by
  have hla := Nat.mod_lt A (pw_pos k)
  have hlb := Nat.mod_lt B (pw_pos k)
  unfold cry
  rw [Nat.div_le_iff_le_mul_add_pred (pw_pos k)]
  omega
theorem cry_zero (A B : Nat) : cry A B 0 = 0 := by simp [cry, pw, Nat.mod_one]
theorem add_step (A B k : Nat) : wd (A + B) k = (wd A k + wd B k + cry A B k) % 18446744073709551616 ∧ cry A B (k + 1) = (wd A k + wd B k + cry A B k) / 18446744073709551616 := by
  have hp := pw_pos k
  have hA' := Nat.div_add_mod A (pw k)
  have hB' := Nat.div_add_mod B (pw k)
  refine ⟨?_, ?_⟩
  · have e : A + B = (A % pw k + B % pw k) + pw k * (A / pw k + B / pw k) := by rw [Nat.mul_add]; omega
    rw [wd_pw (A + B), e, Nat.add_mul_div_left _ _ hp, wd_pw, wd_pw]
    unfold cry
    omega
  · unfold cry
    rw [mod_pw, mod_pw, pw_succ, ← Nat.div_div_eq_div_mul, show A % pw k + pw k * wd A k + (B % pw k + pw k * wd B k) = (A % pw k + B % pw k) + pw k * (wd A k + wd B k) by rw [Nat.mul_add]; omega, Nat.add_mul_div_left _ _ hp, Nat.add_comm]
theorem cry_all (A B : Nat) (hA : A < top256) (hB : B < top256) (h : A + B < top256) : cry A B 4 = 0 := by
  unfold cry
  have : pw 4 = top256 := rfl
  rw [this, Nat.mod_eq_of_lt hA, Nat.mod_eq_of_lt hB, Nat.div_eq_of_lt h]
def upW (M k : Nat) : Nat := M / pw k
theorem upW_step (M k : Nat) : upW M k = 18446744073709551616 * upW M (k + 1) + wd M k := by
  unfold upW
  rw [wd_pw, pw_succ, ← Nat.div_div_eq_div_mul]
  omega
theorem upW_zero (M : Nat) : upW M 0 = M := by simp [upW, pw]
theorem upW_top (M : Nat) (h : M < top256) : upW M 4 = 0 := Nat.div_eq_of_lt h
end Go.Proofs.YtfgeocpooimojaaDoor
namespace Go.Proofs.YtfgeocpooimojaaDoor
open Go Go.RowKit

section
variable {P : Program} {ops : Array Oper} {Q : Exit → Act → World → Prop} {md : Region.Mode} {S : World → Prop}
/-- In state 'a', in every world that meets 'S', operation 'o' leaves 'v' in its temporary, and the world has only grown. -/
def YieldsL (P : Program) (ops : Array Oper) (S : World → Prop) (o : Oper) (v : Value) (a : Act) : Prop :=
  (Region.wanted o (yielded ops a.tmps) = true ∧ ∀ w, S w → (execOp a.eval o).run P w = .ok (.value v) w ∨ ∃ f args, (execOp a.eval o).run P w = .ok (.enter f args) w ∧ Calls P f args w fun e w' => e = .returned v ∧ Below w.heap.size w w') ∨
  (Region.wanted o (yielded ops a.tmps) = false ∧ v = undef)
theorem YieldsL.of_same {o : Oper} {v : Value} {a a' : Act} (hy : YieldsL P ops S o v a) (he : execOp a'.eval o = execOp a.eval o)
    (hw : Region.wanted o (yielded ops a'.tmps) = Region.wanted o (yielded ops a.tmps)) : YieldsL P ops S o v a' := by
  unfold YieldsL at *
  rw [he, hw]
  exact hy
theorem YieldsL.of_if {o : Oper} {v : Value} {a : Act} (h : YieldsIf P ops S o v a) : YieldsL P ops S o v a := by
  rcases h with ⟨h1, h2⟩ | h
  · exact .inl ⟨h1, fun w hw => .inl (h2 w hw)⟩
  · exact .inr h
theorem YieldsL.wpOp {i : Nat} {o : Oper} {v : Value} {a : Act} (hi : ops[i]? = some o) (hy : YieldsL P ops S o v a)
    {K : Act → World → Prop} {w : World} (hS : S w) (h : ∀ w', Below w.heap.size w w' → K (a.put o.dst v) w') : wpOp P ops Q i K a w := by
  unfold Go.wpOp
  simp only [hi]
  rcases hy with ⟨hw, hv⟩ | ⟨hw, rfl⟩
  · simp only [hw, if_true]
    refine .inl ?_
    unfold Oper.wp
    rcases hv w hS with e | ⟨f, args, e, hc⟩
    · rw [e]; exact h w (Below.refl _ _)
    · rw [e]
      refine hc.mono ?_
      rintro e w' ⟨rfl, hb⟩
      exact h w' hb
  · simp only [hw, Bool.false_eq_true, if_false]; exact h w (Below.refl _ _)
theorem wpOp_putL {j : Nat} {oi oj : Oper} {v : Value} (hj : ops[j]? = some oj) (hap : oi.apart ops oj = true)
    (hsi : ∀ cs b, oi.op ≠ .select cs b) (hsj : ∀ cs b, oj.op ≠ .select cs b)
    (hQ : ∀ c a w, Q (.panic c) (a.put oi.dst v) w → Q (.panic c) a w) {K : Act → World → Prop} {a : Act} {w : World}
    (hy : YieldsL P ops S oi v a) (h : wpOp P ops Q j K (a.put oi.dst v) w) :
    wpOp P ops Q j (fun a' w' => YieldsL P ops S oi v a' ∧ K (a'.put oi.dst v) w') a w := by
  obtain ⟨h1, h2, h3⟩ := Oper.apart_spec hap
  have keep : ∀ (a : Act), YieldsL P ops S oi v a → ∀ u, YieldsL P ops S oi v (a.put oj.dst u) := fun a hy u =>
    hy.of_same (execOp_put oi hsi a oj.dst u h3) (wanted_put oi a oj.dst u h3)
  have keepD : ∀ d, YieldsL P ops S oi v { a with defers := d :: a.defers } := fun d => hy.of_same rfl rfl
  unfold Go.wpOp at *
  simp only [hj] at *
  rw [wanted_put oj a oi.dst v h1] at h
  split
  · rename_i hw
    simp only [hw, if_true] at h
    rcases h with h | ⟨hasks, hlets⟩
    case inr => exact .inr ⟨by unfold Oper.asks at *; rw [execOp_put oj hsj a oi.dst v h1] at hasks; exact hasks, hlets⟩
    refine .inl ?_
    unfold Oper.wp at *
    rw [execOp_put oj hsj a oi.dst v h1] at h
    generalize (execOp a.eval oj).run P w = r at *
    cases r with
    | ok n w' =>
      cases n <;> simp only [Oper.upon] at h ⊢
      case value u => exact ⟨keep a hy u, by rw [← Act.put_comm a v u h2]; exact h⟩
      case skip => exact ⟨keep a hy _, by rw [← Act.put_comm a v undef h2]; exact h⟩
      case defer d =>
        refine ⟨keep _ (keepD d) _, ?_⟩
        rw [← Act.put_comm _ v undef h2, ← Act.put_defers]
        exact h
      case enter f args =>
        refine Calls.mono h fun e w'' he => ?_
        cases e with
        | returned u => exact ⟨keep a hy u, by rw [← Act.put_comm a v u h2]; exact he⟩
        | panicked c => exact hQ _ _ _ he
        | outgrown => exact he
      case row row args => exact Rows.mono h fun u w'' he => ⟨keep a hy u, by rw [← Act.put_comm a v u h2]; exact he⟩
    | halt x w' =>
      cases x <;> simp only [Oper.upon] at h ⊢
      case panic u => exact hQ _ _ _ h
  · rename_i hw
    simp only [hw] at h
    exact ⟨keep a hy _, by rw [← Act.put_comm a v undef h2]; exact h⟩
/-- Whatever order is picked from here on, in whatever world that has grown out of this one; S holds behind every operation. -/
def wpAnyK (P : Program) (md : Region.Mode) (ops : Array Oper) (Q : Exit → Act → World → Prop) (S : World → Prop) : Nat → Array Bool → Act → World → Prop
  | 0, listed, a, w => ∀ w1, Below w.heap.size w w1 → Region.ready md ops listed = [] ∧ Q .normal a w1
  | fuel + 1, listed, a, w => ∀ w1, Below w.heap.size w w1 →
    (Region.ready md ops listed = [] → Q .normal a w1) ∧
    ∀ i ∈ Region.ready md ops listed, wpOp P ops Q i (fun a' w' => S w' ∧ wpAnyK P md ops Q S fuel (listed.setIfInBounds i true) a' w') a w1
theorem Below.later {a b c : World} (h : Below a.heap.size a b) (k : Below b.heap.size b c) : Below a.heap.size a c := h.trans (k.mono h.size)
theorem wpAnyK_mono : ∀ (fuel : Nat) {listed : Array Bool} {a : Act} {w w1 : World}, wpAnyK P md ops Q S fuel listed a w → Below w.heap.size w w1 → wpAnyK P md ops Q S fuel listed a w1
  | 0, _, _, _, _, h, hb => fun w2 h2 => h w2 (Below.later hb h2)
  | _ + 1, _, _, _, _, h, hb => fun w2 h2 => h w2 (Below.later hb h2)
theorem wpAny_of_K : ∀ (fuel : Nat) (listed : Array Bool) (a : Act) (w : World), wpAnyK P md ops Q S fuel listed a w → wpAny P md ops Q fuel listed a w
  | 0, _, _, w, h => h w (Below.refl _ _)
  | fuel + 1, _, _, w, h => ⟨(h w (Below.refl _ _)).1, fun i hi => wpOp_mono (fun a' w' h' => wpAny_of_K fuel _ a' w' h'.2) ((h w (Below.refl _ _)).2 i hi)⟩
theorem wpAnyK_first {i : Nat} {oi : Oper} {v : Value} (hi : ops[i]? = some oi) (hsel : ∀ (j : Nat) (o : Oper) cs b, ops[j]? = some o → o.op ≠ .select cs b)
    (hQ : ∀ c a w, Q (.panic c) (a.put oi.dst v) w → Q (.panic c) a w) (hSc : ∀ w w', S w → Below w.heap.size w w' → S w') :
    ∀ (fuel : Nat) (listed : Array Bool) (a : Act) (w : World),
      (∀ j oj, ops[j]? = some oj → j ≠ i → listed.getD j true = false → (∀ e ∈ oj.after, Region.binds md e = true → e.on ≠ i) → oi.apart ops oj = true) →
      i ∈ Region.ready md ops listed → YieldsL P ops S oi v a → S w →
      wpAnyK P md ops Q S fuel (listed.setIfInBounds i true) (a.put oi.dst v) w → wpAnyK P md ops Q S (fuel + 1) listed a w := by
  intro fuel
  induction fuel with
  | zero =>
    intro listed a w _ hr hy hS H w1 hb1
    refine ⟨fun h => (by rw [h] at hr; cases hr), fun j hj => ?_⟩
    by_cases hji : j = i
    · subst hji; exact hy.wpOp hi (hSc _ _ hS hb1) fun w' hb' => ⟨hSc _ _ (hSc _ _ hS hb1) hb', wpAnyK_mono 0 H (Below.later hb1 hb')⟩
    · have := ready_mono hj hji
      rw [(H w1 hb1).1] at this
      cases this
  | succ fuel ih =>
    intro listed a w hfree hr hy hS H w1 hb1
    refine ⟨fun h => (by rw [h] at hr; cases hr), fun j hj => ?_⟩
    by_cases hji : j = i
    · subst hji; exact hy.wpOp hi (hSc _ _ hS hb1) fun w' hb' => ⟨hSc _ _ (hSc _ _ hS hb1) hb', wpAnyK_mono (fuel + 1) H (Below.later hb1 hb')⟩
    · have h1 := (H w1 hb1).2 j (ready_mono hj hji)
      obtain ⟨hjun, oj, hoj, hall⟩ := mem_ready.1 hj
      have hnot : ∀ e ∈ oj.after, Region.binds md e = true → e.on ≠ i := fun e he hb heq => by
        have h1 := hall e he hb
        have h0 := (mem_ready.1 hr).1
        rw [heq] at h1
        rcases Nat.lt_or_ge i listed.size with h' | h'
        · simp [h'] at h0 h1; rw [h0] at h1; cases h1
        · simp [Array.getElem?_eq_none h'] at h1
      have h2 := wpOp_putL hoj (hfree j oj hoj hji hjun hnot) (fun cs b => hsel i oi cs b hi) (fun cs b => hsel j oj cs b hoj) hQ hy h1
      have hfree' : ∀ k ok, ops[k]? = some ok → k ≠ i → (listed.setIfInBounds j true).getD k true = false →
          (∀ e ∈ ok.after, Region.binds md e = true → e.on ≠ i) → oi.apart ops ok = true := fun k ok hk hki hun hno => by
        refine hfree k ok hk hki ?_ hno
        by_cases hjk : j = k
        · subst hjk; exact hjun
        · rw [getD_set_ne true hjk] at hun; exact hun
      refine wpOp_mono (fun a' w' h3 => ⟨h3.2.1, ih (listed.setIfInBounds j true) a' w' hfree' (ready_mono hr (Ne.symm hji)) h3.1 h3.2.1 ?_⟩) h2
      rw [Array.setIfInBounds_comm _ _ hji]
      exact h3.2.2
/-- Take number 'i' first. -/
theorem wpAnyK_take {i : Nat} {oi : Oper} {v : Value} {fuel : Nat} {listed : Array Bool} {a : Act} {w : World} (hi : ops[i]? = some oi)
    (hs : Region.noSelect ops = true) (hf : Region.free md ops listed i = true) (hr : (Region.ready md ops listed).contains i = true)
    (hQ : ∀ c a w, Q (.panic c) (a.put oi.dst v) w → Q (.panic c) a w) (hSc : ∀ w w', S w → Below w.heap.size w w' → S w') (hy : YieldsL P ops S oi v a) (hS : S w)
    (h : wpAnyK P md ops Q S fuel (listed.setIfInBounds i true) (a.put oi.dst v) w) : wpAnyK P md ops Q S (fuel + 1) listed a w :=
  wpAnyK_first hi (Region.noSelect_spec hs) hQ hSc fuel listed a w (Region.free_spec hi hf) (by simpa using hr) hy hS h
/-- Whichever of those that may come up comes up, in a world that has grown. -/
theorem wpAnyK_all {rs : List Nat} {fuel : Nat} {listed : Array Bool} {a : Act} {w : World} (hr : Region.ready md ops listed = rs) (hne : rs ≠ [])
    (h : ∀ w1, Below w.heap.size w w1 → ∀ i ∈ rs, wpOp P ops Q i (fun a' w' => S w' ∧ wpAnyK P md ops Q S fuel (listed.setIfInBounds i true) a' w') a w1) : wpAnyK P md ops Q S (fuel + 1) listed a w :=
  fun w1 hb => ⟨fun h0 => absurd (hr ▸ h0) hne, hr ▸ h w1 hb⟩
theorem wpAnyK_done {listed : Array Bool} {a : Act} {w : World} (hr : Region.ready md ops listed = []) (h : ∀ w1, Below w.heap.size w w1 → Q .normal a w1) :
    ∀ fuel, wpAnyK P md ops Q S fuel listed a w
  | 0 => fun w1 hb => ⟨hr, h w1 hb⟩
  | _ + 1 => fun w1 hb => ⟨fun _ => h w1 hb, by rw [hr]; simp⟩
theorem wp_region_K {id : Nat} {a : Act} {w : World} (hm : P.follows .mixedOrders = true)
    (h : wpAnyK P .any ops Q S ops.size (Array.replicate ops.size false) a { w with drawn := w.drawn + 1 }) : (Code.region id ops true).wp P Q a w :=
  wp_region_any hm (wpAny_of_K _ _ _ _ h)
theorem wp_region_Kn {id n : Nat} {a : Act} {w : World} (hs : ops.size = n) (hm : P.follows .mixedOrders = true)
    (h : wpAnyK P .any ops Q S n (Array.replicate n false) a { w with drawn := w.drawn + 1 }) : (Code.region id ops true).wp P Q a w :=
  wp_region_K hm (by rw [hs]; exact h)
/-- One operation alone may come up. -/
theorem wpAnyK_one {i : Nat} {o : Oper} {fuel : Nat} {listed : Array Bool} {a : Act} {w : World} (hr : Region.ready md ops listed = [i]) (ho : ops[i]? = some o) (hw : Region.wanted o (yielded ops a.tmps) = true)
    (h : ∀ w1, Below w.heap.size w w1 → o.wp P a w1 (fun a' w' => S w' ∧ wpAnyK P md ops Q S fuel (listed.setIfInBounds i true) a' w') Q) : wpAnyK P md ops Q S (fuel + 1) listed a w := by
  refine wpAnyK_all hr (by simp) fun w1 hb i' hi' => ?_
  simp only [List.mem_singleton] at hi'
  subst hi'
  unfold Go.wpOp
  simp only [ho, hw, if_true]
  exact .inl (h w1 hb)
/-- Two operations may come up. -/
theorem wpAnyK_two {i j : Nat} {o o' : Oper} {fuel : Nat} {listed : Array Bool} {a : Act} {w : World} (hr : Region.ready md ops listed = [i, j]) (ho : ops[i]? = some o) (ho' : ops[j]? = some o') (hw : Region.wanted o (yielded ops a.tmps) = true) (hw' : Region.wanted o' (yielded ops a.tmps) = true)
    (h : ∀ w1, Below w.heap.size w w1 → o.wp P a w1 (fun a' w' => S w' ∧ wpAnyK P md ops Q S fuel (listed.setIfInBounds i true) a' w') Q)
    (h' : ∀ w1, Below w.heap.size w w1 → o'.wp P a w1 (fun a' w' => S w' ∧ wpAnyK P md ops Q S fuel (listed.setIfInBounds j true) a' w') Q) : wpAnyK P md ops Q S (fuel + 1) listed a w := by
  refine wpAnyK_all hr (by simp) fun w1 hb i' hi' => ?_
  simp only [List.mem_cons, List.not_mem_nil, or_false] at hi'
  rcases hi' with rfl | rfl
  · unfold Go.wpOp
    simp only [ho, hw, if_true]
    exact .inl (h w1 hb)
  · unfold Go.wpOp
    simp only [ho', hw', if_true]
    exact .inl (h' w1 hb)
theorem keepB {W : World} {B : Nat} {p : Addr} {v : Value} (h : W.cell? p = some v) (hp : p.block < B) : ∀ w', Below B W w' → w'.cell? p = some v := fun _ hb => (hb.cell hp).trans h
theorem keepc {W : World} {p : Addr} {v : Value} (h : W.cell? p = some v) : ∀ w', Below W.heap.size W w' → w'.cell? p = some v := fun _ hb => (hb.cell (block_lt_of_cell h)).trans h
/-- The operation is a call with a contract. -/
theorem yields_call {o : Oper} {v : Value} {a : Act} {f : FuncId} {args : Array Value} (hw : Region.wanted o (yielded ops a.tmps) = true) (he : ∀ w, S w → (execOp a.eval o).run P w = .ok (.enter f args) w)
    (hc : ∀ w, S w → Calls P f args w fun e w' => e = .returned v ∧ Below w.heap.size w w') : YieldsL P ops S o v a :=
  .inl ⟨hw, fun w hS => .inr ⟨f, args, he w hS, hc w hS⟩⟩
/-- The operation only reads. -/
theorem yields_read {o : Oper} {v : Value} {a : Act} (hw : Region.wanted o (yielded ops a.tmps) = true) (he : ∀ w, S w → (execOp a.eval o).run P w = .ok (.value v) w) : YieldsL P ops S o v a :=
  .inl ⟨hw, fun w hS => .inl (he w hS)⟩
/-- The operation is not wanted. -/
theorem yields_not {o : Oper} {a : Act} (hw : Region.wanted o (yielded ops a.tmps) = false) : YieldsL P ops S o undef a := .inr ⟨hw, rfl⟩
end
end Go.Proofs.YtfgeocpooimojaaDoor
