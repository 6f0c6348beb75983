/-
  Regions that draw their order: calls whose results are known by what they are good for. Conditions: as each theorem states them. Wide integers as natural numbers of any size (reference of ratios): natOf. Conditions: as each theorem states them. Fractions of the reference: wholeOf, Valid. Conditions: magnitudes are below 2^64.
-/
import Derived.Test.YtfgeocpooimojaaDoorQPfWeightCentres22
import Derived.Test.YtfgeocpooimojaaDoorQPfWeightCentres27
namespace Go.Proofs.YtfgeocpooimojaaDoor
open Go Go.RowKit

section
variable {P : Program} {ops : Array Oper} {Q : Exit → Act → World → Prop} {md : Region.Mode} {S : World → Prop}
/-- What a call is good for: it returns a value with R, memory has only grown, and R stays. -/
def GoodFor (P : Program) (S : World → Prop) (f : FuncId) (args : Array Value) (R : Value → World → Prop) : Prop :=
  (∀ w, S w → Calls P f args w fun e w' => ∃ v, e = .returned v ∧ R v w' ∧ Below w.heap.size w w') ∧ ∀ v w w', R v w → Below w.heap.size w w' → R v w'
/-- One call alone may come up. -/
theorem wpAnyK_call1 {i fuel : Nat} {oi : Oper} {d : Tmp} {listed : Array Bool} {a : Act} {w : World} {f : FuncId} {args : Array Value} {R : Value → World → Prop} (hr : Region.ready md ops listed = [i]) (hi : ops[i]? = some oi) (hd : oi.dst = some d)
    (hw : Region.wanted oi (yielded ops a.tmps) = true) (hSc : ∀ w w', S w → Below w.heap.size w w' → S w') (hS : S w) (he : ∀ w, S w → (execOp a.eval oi).run P w = .ok (.enter f args) w)
    (hc : ∀ w1, Below w.heap.size w w1 → S w1 → Calls P f args w1 fun e w' => ∃ v, e = .returned v ∧ R v w' ∧ Below w1.heap.size w1 w')
    (H : ∀ v w', Below w.heap.size w w' → S w' → R v w' → wpAnyK P md ops Q S fuel (listed.setIfInBounds i true) (a.put (some d) v) w') : wpAnyK P md ops Q S (fuel + 1) listed a w := by
  refine wpAnyK_one hr hi hw fun w1 hb1 => ?_
  have hS1 := hSc _ _ hS hb1
  unfold Oper.wp
  rw [he w1 hS1]
  refine (hc w1 hb1 hS1).mono ?_
  rintro e w2 ⟨v, rfl, hR, hb2⟩
  have hS2 := hSc _ _ hS1 hb2
  rw [hd]
  exact ⟨hS2, H v w2 (Below.later hb1 hb2) hS2 hR⟩
/-- A call, and a new variable that may come up before it. -/
theorem wpAnyK_float1 {i f fuel : Nat} {oi of : Oper} {di d : Tmp} {listed : Array Bool} {a : Act} {w : World} {fn : FuncId} {args : Array Value} {R : Value → World → Prop} {ty : TypeId} {z : Array Value} (hr : Region.ready md ops listed = [i, f]) (hi : ops[i]? = some oi) (hf : ops[f]? = some of) (hdi : oi.dst = some di) (hdf : of.dst = some d)
    (hw : Region.wanted oi (yielded ops a.tmps) = true) (hwf : Region.wanted of (yielded ops a.tmps) = true) (hop : of.op = .alloc ty) (hz : ∀ w, (zeroValue ty).run P w = .ok (.agg z) w) (hSc : ∀ w w', S w → Below w.heap.size w w' → S w') (hS : S w)
    (he : ∀ w, S w → (execOp a.eval oi).run P w = .ok (.enter fn args) w) (hc : ∀ w1, Below w.heap.size w w1 → S w1 → Calls P fn args w1 fun e w' => ∃ v, e = .returned v ∧ R v w' ∧ Below w1.heap.size w1 w')
    (H0 : ∀ v w', Below w.heap.size w w' → S w' → R v w' → wpAnyK P md ops Q S fuel (listed.setIfInBounds i true) (a.put (some di) v) w')
    (H1 : ∀ g w', w.heap.size ≤ g → Below w.heap.size w w' → S w' → Blk w' g ty z → wpAnyK P md ops Q S fuel (listed.setIfInBounds f true) (a.put (some d) (.pointer (some ⟨g, 0, none⟩))) w') : wpAnyK P md ops Q S (fuel + 1) listed a w := by
  refine wpAnyK_two hr hi hf hw hwf (fun w1 hb1 => ?_) (fun w1 hb1 => ?_)
  · have hS1 := hSc _ _ hS hb1
    unfold Oper.wp
    rw [he w1 hS1]
    refine (hc w1 hb1 hS1).mono ?_
    rintro e w2 ⟨v, rfl, hR, hb2⟩
    have hS2 := hSc _ _ hS1 hb2
    rw [hdi]
    exact ⟨hS2, H0 v w2 (Below.later hb1 hb2) hS2 hR⟩
  · have hS1 := hSc _ _ hS hb1
    refine wp_alloc_row ty hop z hz ?_
    have hb2 : Below w1.heap.size w1 (w1.alloc (.cells z ty)) := (Below.refl _ _).alloc (Nat.le_refl _) _
    have hS2 := hSc _ _ hS1 hb2
    rw [hdf]
    exact ⟨hS2, H1 w1.heap.size _ hb1.size (Below.later hb1 hb2) hS2 (Blk.new w1 ty z)⟩
end
end Go.Proofs.YtfgeocpooimojaaDoor
namespace Go.Proofs.YtfgeocpooimojaaDoor
open Go Go.RowKit

theorem wd_lo (M k : Nat) : wd M k % 4294967296 = dig M (2 * k) := by
  unfold wd dig
  rw [show (4294967296 : Nat) ^ (2 * k) = 18446744073709551616 ^ k by rw [Nat.pow_mul]]
  generalize M / 18446744073709551616 ^ k = z
  omega
theorem wd_hi (M k : Nat) : wd M k / 4294967296 = dig M (2 * k + 1) := by
  unfold wd dig
  rw [Nat.pow_succ, show (4294967296 : Nat) ^ (2 * k) = 18446744073709551616 ^ k by rw [Nat.pow_mul], ← Nat.div_div_eq_div_mul]
  generalize M / 18446744073709551616 ^ k = z
  omega
theorem run_build2 (n m : Int) (w : World) : (Instr.buildSlice 87 2 #[(0, .int .u32 n), (1, .int .u32 m)]).run Tryd.prog w = .ok (.slice (some ⟨w.heap.size, 0, none⟩) 2 2) (w.alloc (.cells #[.int .u32 n, .int .u32 m] 128)) := by kernel_rfl
theorem wp_build2 {o : Oper} {a : Act} {w : World} {K : Act → World → Prop} {Q : Exit → Act → World → Prop} (x y : Operand) (n m : Int) (ho : o.op = .buildSlice 87 2 #[(0, x), (1, y)]) (hx : a.eval x = .int .u32 n) (hy : a.eval y = .int .u32 m)
    (h : K (a.put o.dst (.slice (some ⟨w.heap.size, 0, none⟩) 2 2)) (w.alloc (.cells #[.int .u32 n, .int .u32 m] 128))) : o.wp Tryd.prog a w K Q := by
  unfold Oper.wp execOp
  simp only [ho, Sem.run_bind, List.map_toArray, List.map_cons, List.map_nil, hx, hy, run_build2, Result.andThen_ok, Sem.run_pure]
  exact h
theorem dcells_snoc2 (k N : Nat) : dcells (2 * (k + 1)) N = dcells (2 * k) N ++ [.int .u32 (dig N (2 * k) : Nat), .int .u32 (dig N (2 * k + 1) : Nat)] := by
  rw [show 2 * (k + 1) = 2 * k + 1 + 1 by omega, dcells_snoc, dcells_snoc, List.append_assoc]
  rfl
theorem two_of (x y : Value) (h : x.oneCell' = true) (h' : y.oneCell' = true) : ∀ u ∈ [x, y], u.oneCell' = true := by intro u hu; simp at hu; rcases hu with rfl | rfl <;> assumption
/-- The cells of a wide integer. -/
abbrev wideG (n : Bool) (M : Nat) : Array Value := #[.bool n, .int .u64 (wd M 0 : Nat), .int .u64 (wd M 1 : Nat), .int .u64 (wd M 2 : Nat), .int .u64 (wd M 3 : Nat)]
theorem wideG_word (n : Bool) (M k : Nat) (hk : k < 4) : (wideG n M)[1 + k]? = some (.int .u64 (wd M k : Nat)) := by
  match k, hk with
  | 0, _ => rfl
  | 1, _ => rfl
  | 2, _ => rfl
  | 3, _ => rfl
set_option maxHeartbeats 4000000 in
set_option maxRecDepth 100000 in
theorem natOf_at (n : Bool) (M m0 m1 m2 m3 : Nat) (h0 : m0 = wd M 0) (h1 : m1 = wd M 1) (h2 : m2 = wd M 2) (h3 : m3 = wd M 3) (hM : M < 4294967296 ^ 8) (w : World) : Calls Tryd.prog 102 #[.agg #[.bool n, .int .u64 (m0 : Nat), .int .u64 (m1 : Nat), .int .u64 (m2 : Nat), .int .u64 (m3 : Nat)]] w (RetNat w M) := by
  have HM := Lib.hid hM; clear hM
  have HB := Lib.hid (Blk.new w 35 #[.bool n, .int .u64 (m0 : Nat), .int .u64 (m1 : Nat), .int .u64 (m2 : Nat), .int .u64 (m3 : Nat)])
  obtain ⟨i0, hi, hz0, hz1, hz2⟩ := info_parts Tryd.infoU32
  have Hi := Lib.hid hi; have Hz0 := Lib.hid hz0; have Hz1 := Lib.hid hz1; have Hz2 := Lib.hid hz2; clear hi hz0 hz1 hz2
  have WW : Hid (∀ k, k < 4 → ((#[.bool n, .int .u64 (m0 : Nat), .int .u64 (m1 : Nat), .int .u64 (m2 : Nat), .int .u64 (m3 : Nat)] : Array Value))[1 + k]? = some (.int .u64 (wd M k : Nat))) := by
    unfold Hid
    rw [h0, h1, h2, h3]
    exact wideG_word n M
  clear h0 h1 h2 h3
  have WL := Lib.hid (fun k => wd_lo M k); have WH := Lib.hid (fun k => wd_hi M k)
  have WD := Lib.hid (fun k => show wd M k < 18446744073709551616 from Nat.mod_lt _ (by decide))
  go_enter Tryd.func102, Tryd.ntmps102
  go_wp2_with fail
  go_loopw [3, 4] (fun v i wr => ∃ k : Nat, k ≤ 4 ∧ i = .int .i64 (k : Int) ∧ Hid (wr.ownsRow (w.heap.size + 1) 128 1 v (2 * k) (dcells (2 * k) M)) ∧ Hid (Blk wr w.heap.size 35 #[.bool n, .int .u64 (m0 : Nat), .int .u64 (m1 : Nat), .int .u64 (m2 : Nat), .int .u64 (m3 : Nat)]) ∧ Hid (Below w.heap.size w wr)) (fun _ i _ => 4 - (intOf i).toNat)
  case atStart => exact ⟨0, by omega, rfl, World.ownsRow_nil _ _ _ _, HB.out, by unfold Hid; go_grown⟩
  case round =>
    obtain ⟨k, hk, rfl, Hown, KB, Hb⟩ := hrel
    clear HB
    have hBw := Hb.out.size
    by_cases hlt : k < 4
    · have hB : w.heap.size + 1 ≤ wr.heap.size := KB.out.lt
      have k0 := keepB (B := w.heap.size + 1) ((KB.out.cell (1 + k)).trans (WW.out k hlt)) (by simp)
      have hl := WD.out k
      have a1 : bits .and .u64 (wd M k : Int) 4294967295 = (dig M (2 * k) : Int) := by rw [and_low _ hl, WL.out]
      have a2 : (wd M k : Int) / 4294967296 = (dig M (2 * k + 1) : Int) := by rw [← WH.out]; omega
      have l1 := dig_lt M (2 * k)
      have l2 := dig_lt M (2 * k + 1)
      have i0' : (0 : Int) ≤ (k : Int) := by omega
      have i1' : (k : Int) < 4 := by omega
      have q1 : IntKind.u32.wrap (dig M (2 * k) : Int) = (dig M (2 * k) : Int) := by rw [wrap_u32']; omega
      have q2 : IntKind.u32.wrap (dig M (2 * k + 1) : Int) = (dig M (2 * k + 1) : Int) := by rw [wrap_u32']; omega
      go_wp2_with fail
      refine wp_region_Kn (n := 16) (S := fun w' => Below (w.heap.size + 1) wr w') rfl (by kernel_rfl) ?_
      have hS0 : Below (w.heap.size + 1) wr { wr with drawn := wr.drawn + 1 } := (Below.refl _ _).drew
      refine wpAnyK_taked (i := 0) (oi := _) (v := ?_) rfl rfl (by kernel_rfl) (by kernel_rfl) (by kernel_rfl) (fun _ _ _ h => h) (fun _ _ h k => h.trans (k.mono (Nat.le_trans hB h.size))) (yields_read (by rfl) ?hy0) hS0 ?_
      rotate_left
      case hy0 =>
        intro w' hSw
        go_simp
        try with_reducible rfl
      simp only [Act.put, List.setIfInBounds_toArray, List.set_cons_zero, List.set_cons_succ]
      refine wpAnyK_taked (i := 1) (oi := _) (v := ?_) rfl rfl (by kernel_rfl) (by kernel_rfl) (by kernel_rfl) (fun _ _ _ h => h) (fun _ _ h k => h.trans (k.mono (Nat.le_trans hB h.size))) (yields_read (by rfl) ?hy1) hS0 ?_
      rotate_left
      case hy1 =>
        intro w' hSw
        go_simp
        try with_reducible rfl
      simp only [Act.put, List.setIfInBounds_toArray, List.set_cons_zero, List.set_cons_succ]
      refine wpAnyK_taked (i := 2) (oi := _) (v := ?_) rfl rfl (by kernel_rfl) (by kernel_rfl) (by kernel_rfl) (fun _ _ _ h => h) (fun _ _ h k => h.trans (k.mono (Nat.le_trans hB h.size))) (yields_read (by rfl) ?hy2) hS0 ?_
      rotate_left
      case hy2 =>
        intro w' hSw
        go_simp
        try with_reducible rfl
      simp only [Act.put, List.setIfInBounds_toArray, List.set_cons_zero, List.set_cons_succ]
      refine wpAnyK_taked (i := 3) (oi := _) (v := ?_) rfl rfl (by kernel_rfl) (by kernel_rfl) (by kernel_rfl) (fun _ _ _ h => h) (fun _ _ h k => h.trans (k.mono (Nat.le_trans hB h.size))) (yields_read (by rfl) ?hy3) hS0 ?_
      rotate_left
      case hy3 =>
        intro w' hSw
        go_simp
        try with_reducible rfl
      simp only [Act.put, List.setIfInBounds_toArray, List.set_cons_zero, List.set_cons_succ]
      refine wpAnyK_taked (i := 4) (oi := _) (v := ?_) rfl rfl (by kernel_rfl) (by kernel_rfl) (by kernel_rfl) (fun _ _ _ h => h) (fun _ _ h k => h.trans (k.mono (Nat.le_trans hB h.size))) (yields_read (by rfl) ?hy4) hS0 ?_
      rotate_left
      case hy4 =>
        intro w' hSw
        go_simp
        try with_reducible rfl
      simp only [Act.put, List.setIfInBounds_toArray, List.set_cons_zero, List.set_cons_succ]
      refine wpAnyK_taked (i := 5) (oi := _) (v := ?_) rfl rfl (by kernel_rfl) (by kernel_rfl) (by kernel_rfl) (fun _ _ _ h => h) (fun _ _ h k => h.trans (k.mono (Nat.le_trans hB h.size))) (yields_read (by rfl) ?hy5) hS0 ?_
      rotate_left
      case hy5 =>
        intro w' hSw
        go_simp
        try with_reducible rfl
      simp only [Act.put, List.setIfInBounds_toArray, List.set_cons_zero, List.set_cons_succ]
      refine wpAnyK_taked (i := 6) (oi := _) (v := ?_) rfl rfl (by kernel_rfl) (by kernel_rfl) (by kernel_rfl) (fun _ _ _ h => h) (fun _ _ h k => h.trans (k.mono (Nat.le_trans hB h.size))) (yields_read (by rfl) ?hy6) hS0 ?_
      rotate_left
      case hy6 =>
        intro w' hSw
        go_simp
        try with_reducible rfl
      simp only [Act.put, List.setIfInBounds_toArray, List.set_cons_zero, List.set_cons_succ]
      refine wpAnyK_taked (i := 7) (oi := _) (v := ?_) rfl rfl (by kernel_rfl) (by kernel_rfl) (by kernel_rfl) (fun _ _ _ h => h) (fun _ _ h k => h.trans (k.mono (Nat.le_trans hB h.size))) (yields_read (by rfl) ?hy7) hS0 ?_
      rotate_left
      case hy7 =>
        intro w' hSw
        go_simp
        try with_reducible rfl
      simp only [Act.put, List.setIfInBounds_toArray, List.set_cons_zero, List.set_cons_succ]
      refine wpAnyK_taked (i := 8) (oi := _) (v := ?_) rfl rfl (by kernel_rfl) (by kernel_rfl) (by kernel_rfl) (fun _ _ _ h => h) (fun _ _ h k => h.trans (k.mono (Nat.le_trans hB h.size))) (yields_read (by rfl) ?hy8) hS0 ?_
      rotate_left
      case hy8 =>
        intro w' hSw
        go_simp
        try with_reducible rfl
      simp only [Act.put, List.setIfInBounds_toArray, List.set_cons_zero, List.set_cons_succ]
      refine wpAnyK_taked (i := 9) (oi := _) (v := ?_) rfl rfl (by kernel_rfl) (by kernel_rfl) (by kernel_rfl) (fun _ _ _ h => h) (fun _ _ h k => h.trans (k.mono (Nat.le_trans hB h.size))) (yields_read (by rfl) ?hy9) hS0 ?_
      rotate_left
      case hy9 =>
        intro w' hSw
        go_simp
        try with_reducible rfl
      simp only [Act.put, List.setIfInBounds_toArray, List.set_cons_zero, List.set_cons_succ]
      refine wpAnyK_taked (i := 10) (oi := _) (v := ?_) rfl rfl (by kernel_rfl) (by kernel_rfl) (by kernel_rfl) (fun _ _ _ h => h) (fun _ _ h k => h.trans (k.mono (Nat.le_trans hB h.size))) (yields_read (by rfl) ?hy10) hS0 ?_
      rotate_left
      case hy10 =>
        intro w' hSw
        go_simp
        try with_reducible rfl
      simp only [Act.put, List.setIfInBounds_toArray, List.set_cons_zero, List.set_cons_succ]
      refine wpAnyK_taked (i := 11) (oi := _) (v := ?_) rfl rfl (by kernel_rfl) (by kernel_rfl) (by kernel_rfl) (fun _ _ _ h => h) (fun _ _ h k => h.trans (k.mono (Nat.le_trans hB h.size))) (yields_read (by rfl) ?hy11) hS0 ?_
      rotate_left
      case hy11 =>
        intro w' hSw
        go_simp
        try with_reducible rfl
      simp only [Act.put, List.setIfInBounds_toArray, List.set_cons_zero, List.set_cons_succ]
      refine wpAnyK_taked (i := 12) (oi := _) (v := ?_) rfl rfl (by kernel_rfl) (by kernel_rfl) (by kernel_rfl) (fun _ _ _ h => h) (fun _ _ h k => h.trans (k.mono (Nat.le_trans hB h.size))) (yields_read (by rfl) ?hy12) hS0 ?_
      rotate_left
      case hy12 =>
        intro w' hSw
        go_simp
        try with_reducible rfl
      simp only [Act.put, List.setIfInBounds_toArray, List.set_cons_zero, List.set_cons_succ]
      clear k0 a1 a2 q1 q2
      have Hown0 : Hid (World.ownsRow { wr with drawn := wr.drawn + 1 } (w.heap.size + 1) 128 1 u3 (2 * k) (dcells (2 * k) M)) := Hown.out
      have hsz0 : w.heap.size + 1 ≤ (World.heap { wr with drawn := wr.drawn + 1 }).size := hB
      have HKB0 : Hid (Blk { wr with drawn := wr.drawn + 1 } w.heap.size 35 #[.bool n, .int .u64 (m0 : Nat), .int .u64 (m1 : Nat), .int .u64 (m2 : Nat), .int .u64 (m3 : Nat)]) := KB.out
      generalize { wr with drawn := wr.drawn + 1 } = w0 at *
      refine wpAnyK_one (i := 13) (by kernel_rfl) rfl (by rfl) fun w1 hb1 => ?_
      refine wp_build2 (.tmp 15) (.tmp 21) _ _ rfl rfl rfl ?_
      have hs1 := hb1.size
      have S1 : Below (w.heap.size + 1) wr (w1.alloc (.cells #[.int .u32 (dig M (2 * k) : Nat), .int .u32 (dig M (2 * k + 1) : Nat)] 128)) := (hS0.trans (hb1.mono hsz0)).alloc (by omega) _
      refine ⟨S1, ?_⟩
      simp only [Act.put, List.setIfInBounds_toArray]
      refine wpAnyK_one (i := 14) (by kernel_rfl) rfl (by rfl) fun w2 hb2 => ?_
      have hs2 := hb2.size
      have Hown2 : Hid (w2.ownsRow (w.heap.size + 1) 128 1 u3 (2 * k) (dcells (2 * k) M)) := own_below ((own_below Hown0.out hb1).alloc _) hb2
      have HN : Hid (∀ j u, [Value.int .u32 (dig M (2 * k) : Nat), Value.int .u32 (dig M (2 * k + 1) : Nat)][j]? = some u → w2.cell? ((⟨w1.heap.size, 0, none⟩ : Addr).add j) = some u) := World.news_of_block (cs := #[.int .u32 (dig M (2 * k) : Nat), .int .u32 (dig M (2 * k + 1) : Nat)]) ((Blk.new w1 128 _).below hb2 (by simp))
      have H3 := Lib.hid (two_of (Value.int .u32 (dig M (2 * k) : Nat)) (Value.int .u32 (dig M (2 * k + 1) : Nat)) rfl rfl)
      have S2 := S1.trans (hb2.mono (by simp; omega))
      have hz2 : w.heap.size + 1 ≤ w2.heap.size := by simp at hs2; omega
      refine wp_append_lies w2 (.tmp 9) (.tmp 22) 87 rfl (w.heap.size + 1) 128 i0 _ 1 4 Tryd.underlying87 Hi.out Hz0.out Hz1.out Hz2.out rfl (by omega) _ (2 * k) _ rfl Hown2.out ⟨w1.heap.size, 0, none⟩ 2 2 _ rfl rfl HN.out H3.out (by omega) (by unfold maxLen; omega) (by omega) hz2 _ rfl ?_
      intro g cap w3 hown3 hgrow hat hlt3
      have S3 : Below (w.heap.size + 1) wr w3 := S2.grown hgrow hz2 (fun g hg => (Hown2.out.lt g hg).1)
      refine ⟨S3, ?_⟩
      simp only [Act.put]
      have Hown3 := Lib.hid hown3
      clear hown3 hat hgrow
      refine wpAnyK_nextd (i := 15) (by kernel_rfl) rfl rfl (by rfl) (fun _ _ h k => h.trans (k.mono (Nat.le_trans hB h.size))) S3 (fun _ _ => rfl) ?_
      simp only [Act.put]
      refine wpAnyK_done (by kernel_rfl) (fun w4 hb4 => ?_) _
      have Hown4 : Hid (w4.ownsRow (w.heap.size + 1) 128 1 (.slice (some ⟨g, 0, none⟩) (2 * (k + 1)) cap) (2 * (k + 1)) (dcells (2 * (k + 1)) M)) := by
        unfold Hid
        rw [dcells_snoc2]
        exact own_below Hown3.out hb4
      have S4 := S3.trans (hb4.mono (Nat.le_trans hB S3.size))
      have KB4 := Lib.hid (KB.out.below S4 (by omega))
      have Hb4 : Hid (Below w.heap.size w w4) := Hb.out.trans (S4.mono (by omega))
      clear Hown3 Hown2 Hown0 Hown S1 S2 S3 S4 hS0 hb1 hb2 hb4 HN hs1 hs2 Hb KB HKB0
      rw [show 2 * k + 2 = 2 * (k + 1) by omega]
      go_wp2_with fail
      go_roundw
      case rel => exact ⟨k + 1, by omega, by go_num, Hown4.out, KB4.out, Hb4.out⟩
      case measure => simp [intOf]; omega
    · obtain rfl : k = 4 := by omega
      obtain ⟨A', c', rfl, hc1, hc2⟩ := own_form2 Hown.out
      have CT : Hid (Calls Tryd.prog 101 #[.slice A' (2 * 4) c'] wr (RetNat w M)) := trim_ret (by omega) (Reads.of_own Hown.out) HM.out hc1 hc2 (fun g hg => by have := (Hown.out.lt g hg).1; omega) Hb.out
      clear Hown
      go_wp2_with fail
      refine CT.out.mono ?_
      rintro e w2 ⟨v, rfl, hv⟩
      have HV := Lib.hid hv
      clear hv
      go_wp2_with fail
      go_ret
      exact ⟨_, rfl, HV.out⟩
end Go.Proofs.YtfgeocpooimojaaDoor
namespace Go.Proofs.YtfgeocpooimojaaDoor
open Go Go.RowKit

theorem natOf_small (n : Bool) (x : Nat) (hx : x < 18446744073709551616) (w : World) : Calls Tryd.prog 102 #[.agg (wideS n x)] w (RetNat w x) := by
  have e : ∀ k, wd x (k + 1) = 0 := fun k => by
    unfold wd
    rw [Nat.div_eq_of_lt (Nat.lt_of_lt_of_le hx (by rw [Nat.pow_succ]; exact Nat.le_mul_of_pos_left _ (Nat.pow_pos (by decide))))]
  exact natOf_at n x x 0 0 0 (by unfold wd; rw [Nat.pow_zero, Nat.div_one, Nat.mod_eq_of_lt hx]) (e 0).symm (e 1).symm (e 2).symm (Nat.lt_of_lt_of_le hx (by decide)) w
/-- The cells of an integer of any size, made by the call. -/
def RetWholeF (w : World) (neg : Bool) (N : Nat) (e : Ending) (w' : World) : Prop := ∃ v, e = .returned (.agg #[.bool neg, v]) ∧ NatV w' v N ∧ (∀ g, v.ownBlock = some g → w.heap.size ≤ g) ∧ Below w.heap.size w w'
set_option maxHeartbeats 4000000 in
theorem wholeOf_at (n : Bool) (x : Nat) (hx : x < 18446744073709551616) (hnx : n = true → x ≠ 0) (w : World) : Calls Tryd.prog 93 #[.agg (wideS n x)] w (RetWholeF w n x) := by
  have HB := Lib.hid (blk_start2 w 35 89 (wideS n x) #[.bool false, .slice none 0 0])
  have C := Lib.hid (fun W => natOf_small n x hx W)
  have HX := Lib.hid hnx
  clear hx hnx
  cases n
  all_goals
    go_enter Tryd.func93, Tryd.ntmps93
    go_wp2_with fail
    refine (C.out _).mono ?_
    rintro e w1 ⟨v, rfl, hv, hf, hb1⟩
    obtain ⟨A, m, c, rfl, hs⟩ := hv
    have K0 := Lib.hid (HB.out.1.below hb1 HB.out.1.lt)
    have K1 := Lib.hid (HB.out.2.1.below hb1 HB.out.2.1.lt)
    have Hb1 : Hid (Below w.heap.size w w1) := Lib.hid (HB.out.2.2.trans (hb1.mono HB.out.2.2.size))
    have HF : Hid (∀ g, (Value.slice A m c).ownBlock = some g → g ≠ w.heap.size + 1) := fun g hg => by have := hf g hg; simp at this; omega
    have HFr : Hid (∀ g, (Value.slice A m c).ownBlock = some g → w.heap.size ≤ g) := fun g hg => by have := hf g hg; simp at this; omega
    have HS := Lib.hid hs
    have c0 := K0.out.cell 0
    simp at c0
    clear hs hf hb1 HB C
    first
      | (have hm : decide (0 < m) = true := by
          have h1 := HX.out trivial
          have h2 := (trm_zero HS.out.trm).1
          rcases Nat.eq_zero_or_pos m with h3 | h3
          · exact absurd (h2 h3) h1
          · simpa using h3)
      | skip
    go_wp2_with (refine wpList_store_row rfl 89 (.tmp 2) (.tmp 14) rfl (w.heap.size + 1) #[.bool _, .slice A m c] rfl rfl 89 #[.bool false, .slice none 0 0] K1.out (zero_of_info Tryd.infoWhole).2 rfl (by simp [Value.oneCell']) ?_)
    refine bodyPost_ret (results_cell_one rfl _ _ (w.heap.size + 1) 89 #[.bool _, .slice A m c] _ rfl (K1.out.setRow _) Tryd.underlying89 rfl (by kernel_rfl)) rfl ⟨_, rfl, natV_setRow ⟨_, _, _, rfl, HS.out⟩ HF.out _, HFr.out, below_setRow Hb1.out (by omega) _⟩
set_option maxHeartbeats 4000000 in
set_option maxRecDepth 100000 in
theorem refValid_at (n : Bool) (p q : Nat) (hp : p < 18446744073709551616) (hq : q < 18446744073709551616) (hnp : n = true → p ≠ 0) (hq0 : q ≠ 0) (hg : Nat.gcd p q = 1) (w : World) :
    Calls Tryd.prog 92 #[.agg (ratS n p q)] w fun e w' => e = .returned (.bool true) ∧ Below w.heap.size w w' := by
  have HB := Lib.hid (Blk.new w 37 (ratS n p q))
  have Hb : Hid (Below w.heap.size w (w.alloc (.cells (ratS n p q) 37))) := by unfold Hid; go_grown
  have G1 : Hid (∀ S : World → Prop, GoodFor Tryd.prog S 102 #[.agg (wideS n p)] (fun v w' => NatV w' v p)) := fun S => ⟨fun W _ => (natOf_small n p hp W).mono fun _ _ ⟨v, h1, h2, _, h4⟩ => ⟨v, h1, h2, h4⟩, fun _ _ _ h hb => h.below hb⟩
  have G2 : Hid (∀ S : World → Prop, GoodFor Tryd.prog S 102 #[.agg (wideS false q)] (fun v w' => NatV w' v q)) := fun S => ⟨fun W _ => (natOf_small false q hq W).mono fun _ _ ⟨v, h1, h2, _, h4⟩ => ⟨v, h1, h2, h4⟩, fun _ _ _ h hb => h.below hb⟩
  have HP := Lib.hid hp; have HQ := Lib.hid hq; have HN := Lib.hid hnp; have HQ0 := Lib.hid hq0; have HG := Lib.hid hg
  clear hp hq hnp hq0 hg
  go_enter Tryd.func92, Tryd.ntmps92
  go_wp2_with fail
  generalize w.alloc (.cells (ratS n p q) 37) = W at *
  have c0 := keepc (HB.out.cell 0); have c1 := keepc (HB.out.cell 1); have c2 := keepc (HB.out.cell 2); have c3 := keepc (HB.out.cell 3); have c4 := keepc (HB.out.cell 4)
  have c5 := keepc (HB.out.cell 5); have c6 := keepc (HB.out.cell 6); have c7 := keepc (HB.out.cell 7); have c8 := keepc (HB.out.cell 8); have c9 := keepc (HB.out.cell 9)
  refine wp_region_Kn (n := 8) (S := fun w' => Below (W.heap.size) W w') rfl (by kernel_rfl) ?_
  have hS0 : Below (W.heap.size) W { W with drawn := W.drawn + 1 } := (Below.refl _ _).drew
  refine wpAnyK_taked (i := 0) (oi := _) (v := ?_) rfl rfl (by kernel_rfl) (by kernel_rfl) (by kernel_rfl) (fun _ _ _ h => h) (fun _ _ => Below.later) (yields_read (by rfl) ?hy0) hS0 ?_
  rotate_left
  case hy0 =>
    intro w' hSw
    go_simp
    try with_reducible rfl
  simp only [Act.put, List.setIfInBounds_toArray, List.set_cons_zero, List.set_cons_succ]
  refine wpAnyK_taked (i := 1) (oi := _) (v := ?_) rfl rfl (by kernel_rfl) (by kernel_rfl) (by kernel_rfl) (fun _ _ _ h => h) (fun _ _ => Below.later) (yields_read (by rfl) ?hy1) hS0 ?_
  rotate_left
  case hy1 =>
    intro w' hSw
    go_simp
    try with_reducible rfl
  simp only [Act.put, List.setIfInBounds_toArray, List.set_cons_zero, List.set_cons_succ]
  refine wpAnyK_taked (i := 3) (oi := _) (v := ?_) rfl rfl (by kernel_rfl) (by kernel_rfl) (by kernel_rfl) (fun _ _ _ h => h) (fun _ _ => Below.later) (yields_read (by rfl) ?hy3) hS0 ?_
  rotate_left
  case hy3 =>
    intro w' hSw
    go_simp
    try with_reducible rfl
  simp only [Act.put, List.setIfInBounds_toArray, List.set_cons_zero, List.set_cons_succ]
  refine wpAnyK_taked (i := 4) (oi := _) (v := ?_) rfl rfl (by kernel_rfl) (by kernel_rfl) (by kernel_rfl) (fun _ _ _ h => h) (fun _ _ => Below.later) (yields_read (by rfl) ?hy4) hS0 ?_
  rotate_left
  case hy4 =>
    intro w' hSw
    go_simp
    try with_reducible rfl
  simp only [Act.put, List.setIfInBounds_toArray, List.set_cons_zero, List.set_cons_succ]
  refine wpAnyK_call1 (i := 2) (d := 7) (R := fun v w' => NatV w' v p) (by kernel_rfl) rfl rfl (by rfl) (fun _ _ => Below.later) hS0 ?e1 (fun w1 _ h => (G1.out _).1 w1 h) ?_
  case e1 => intro w' hSw; go_simp
  intro v1 w0 hb0 hS0' hv1
  simp only [Act.put, List.setIfInBounds_toArray, List.set_cons_zero, List.set_cons_succ]
  refine wpAnyK_call1 (i := 5) (d := 10) (R := fun v w' => NatV w' v q) (by kernel_rfl) rfl rfl (by rfl) (fun _ _ => Below.later) hS0' ?e2 (fun w1 _ h => (G2.out _).1 w1 h) ?_
  case e2 => intro w' hSw; go_simp
  intro v2 w1 hb1 hS1 hv2
  replace hv1 := hv1.below hb1
  obtain ⟨A1, n1, k1, rfl, h1⟩ := hv1
  obtain ⟨A2, n2, k2, rfl, h2⟩ := hv2
  simp only [Act.put, List.setIfInBounds_toArray, List.set_cons_zero, List.set_cons_succ]
  refine wpAnyK_nextd (i := 6) (by kernel_rfl) rfl rfl (by rfl) (fun _ _ => Below.later) hS1 (fun _ _ => rfl) ?_
  simp only [Act.put]
  refine wpAnyK_nextd (i := 7) (by kernel_rfl) rfl rfl (by rfl) (fun _ _ => Below.later) hS1 (fun _ _ => rfl) ?_
  simp only [Act.put]
  refine wpAnyK_done (by kernel_rfl) ?_ _
  intro w2 hb2
  have hS2 := Below.later hS1 hb2
  have K2 := Lib.hid (HB.out.below hS2 HB.out.lt)
  have H1 := Lib.hid (h1.below hb2); have H2 := Lib.hid (h2.below hb2)
  have Hb2 := Lib.hid (Hb.out.trans (hS2.mono Hb.out.size))
  clear hS2 hb2 hS1 hS0 hS0' hb0 h1 h2 c0 c1 c2 c3 c4 c5 c6 c7 c8 c9 HB Hb hb1 G1 G2
  have hn1 : n1 ≤ 2 := trm_few H1.out.trm (by simpa using HP.out)
  have hn2 : n2 ≤ 2 := trm_few H2.out.trm (by simpa using HQ.out)
  have hz2 : ((n2 : Int) == 0) = false := by
    have : n2 ≠ 0 := fun e => HQ0.out ((trm_zero H2.out.trm).1 e)
    simp; omega
  have hz1 : n = true → ((n1 : Int) == 0) = false := by
    intro h
    have : n1 ≠ 0 := fun e => HN.out h ((trm_zero H1.out.trm).1 e)
    simp; omega
  have c0 := K2.out.cell 0; have c5 := K2.out.cell 5
  simp at c0 c5
  have CG := Lib.hid (refGcd_at A1 A2 n1 n2 k1 k2 p q 2 (by omega) hn1 hn2 w2 H1.out H2.out)
  clear H1 H2 K2
  cases n
  case' true => have hz1' := hz1 rfl
  all_goals
    clear hz1
    go_wp2_with fail
    refine CG.out.mono ?_
    rintro e w3 ⟨v3, rfl, hv3, hb3⟩
    have HV3 := Lib.hid hv3
    have Hb3 := Lib.hid (Hb2.out.trans (hb3.mono Hb2.out.size))
    have CS := Lib.hid (small_nat 1 (by omega) w3)
    clear hv3 hb3 CG Hb2
    go_wp2_with fail
    refine CS.out.mono ?_
    rintro e w4 ⟨v4, rfl, hv4, _, hb4⟩
    obtain ⟨A4, n4, k4, rfl, h4⟩ := hv4
    obtain ⟨A3, n3, k3, rfl, h3⟩ := HV3.out.below hb4
    rw [HG.out] at h3
    have hn3 : n3 ≤ 1 := trm_few h3.trm (by decide)
    have hn4 : n4 ≤ 1 := trm_few h4.trm (by decide)
    have CC : Hid (Calls Tryd.prog 95 #[.slice A3 n3 k3, .slice A4 n4 k4] w4 fun e w' => e = .returned (.int .i64 0) ∧ Below w4.heap.size w4 w') := by
      have := natCompare_at A3 A4 n3 n4 k3 k4 1 1 (by omega) (by omega) w4 h3.rd h4.rd h3.trm h4.trm
      rw [show cmpN 1 1 = 0 from cmp_same] at this
      exact this
    have Hb4 := Lib.hid (Hb3.out.trans (hb4.mono Hb3.out.size))
    clear h3 h4 hb4 HV3 CS Hb3
    go_wp2_with fail
    refine CC.out.mono ?_
    rintro e w5 ⟨rfl, hb5⟩
    have Hb5 := Lib.hid (Hb4.out.trans (hb5.mono Hb4.out.size))
    clear hb5 Hb4 CC
    go_wp2_with fail
    go_ret
    exact ⟨rfl, Hb5.out⟩
end Go.Proofs.YtfgeocpooimojaaDoor
