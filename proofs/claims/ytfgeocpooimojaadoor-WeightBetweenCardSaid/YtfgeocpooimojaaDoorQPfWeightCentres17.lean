/-
  Natural numbers as slices of digits (reference of ratios): plus. Conditions: as each theorem states them. Regions that draw their order: the same laws, with the temporaries written out. Conditions: as each theorem states them. Natural numbers as slices of digits (reference of ratios): half. Conditions: as each theorem states them.
-/
import Derived.Test.YtfgeocpooimojaaDoorQPfWeightCentres16
import Derived.Test.YtfgeocpooimojaaDoorQPfWeightCentres08
namespace Go.Proofs.YtfgeocpooimojaaDoor
open Go Go.RowKit

theorem and_low (s : Nat) (hs : s < 18446744073709551616) : bits .and .u64 (s : Int) 4294967295 = ((s % 4294967296 : Nat) : Int) := by
  have h := bits_and_u64_nat s 4294967295 hs (by decide)
  rw [show (4294967295 : Nat) = 2 ^ 32 - 1 from rfl, Nat.and_two_pow_sub_one_eq_mod] at h
  simpa using h
theorem one_of (x : Value) (h : x.oneCell' = true) : ∀ u ∈ [x], u.oneCell' = true := by intro u hu; simp at hu; rw [hu]; exact h
set_option maxHeartbeats 4000000 in
set_option maxRecDepth 100000 in
theorem plus_at (A1 A2 : Option Addr) (n m c1 c2 X Y : Nat) (hn : n ≤ 1000) (hm : m ≤ 1000) (w : World) (h1 : NatS w A1 n c1 X) (h2 : NatS w A2 m c2 Y) :
    Calls Tryd.prog 94 #[.slice A1 n c1, .slice A2 m c2] w (RetNat w (X + Y)) := by
  have H1 := Lib.hid h1; have H2 := Lib.hid h2; clear h1 h2
  obtain ⟨K, hK1, hK2, hK3⟩ : ∃ K : Nat, n ≤ K ∧ m ≤ K ∧ (K ≤ n ∨ K ≤ m) := ⟨max n m, by omega, by omega, by omega⟩
  have HX : Hid (X < 4294967296 ^ K) := Nat.lt_of_lt_of_le H1.out.trm.1 (Nat.pow_le_pow_right (by decide) hK1)
  have HY : Hid (Y < 4294967296 ^ K) := Nat.lt_of_lt_of_le H2.out.trm.1 (Nat.pow_le_pow_right (by decide) hK2)
  obtain ⟨i0, hi, hz0, hz1, hz2⟩ := info_parts Tryd.infoU32
  have Hi := Lib.hid hi; have Hz0 := Lib.hid hz0; have Hz1 := Lib.hid hz1; have Hz2 := Lib.hid hz2; clear hi hz0 hz1 hz2
  go_enter Tryd.func94, Tryd.ntmps94
  go_wp2_with fail
  go_loopw [5, 6, 7] (fun v q i wr => ∃ k : Nat, k ≤ K ∧ i = .int .i64 (k : Int) ∧ q = .int .u64 (carN X Y k : Nat) ∧ Hid (wr.ownsRow w.heap.size 128 1 v k (dcells k (X + Y))) ∧ Hid (Below w.heap.size w wr)) (fun _ _ i _ => K - (intOf i).toNat)
  case atStart => exact ⟨0, Nat.zero_le _, rfl, by rw [carN_zero]; rfl, World.ownsRow_nil _ _ _ _, Below.refl _ _⟩
  case round =>
    obtain ⟨k, hk, rfl, rfl, Hown, Hb⟩ := hrel
    have hB := Hb.out.size
    by_cases hlt : k < K
    · have C1 : Hid (∀ W, Below w.heap.size w W → Calls Tryd.prog 103 #[.slice A1 n c1, .int .i64 (k : Nat)] W fun e w' => e = .returned (.int .u64 (dig X k : Nat)) ∧ W = w') :=
        fun W hW => digit_at A1 n c1 X k w.heap.size (by omega) (by omega) W (H1.out.rd.below hW) H1.out.trm.1
      have C2 : Hid (∀ W, Below w.heap.size w W → Calls Tryd.prog 103 #[.slice A2 m c2, .int .i64 (k : Nat)] W fun e w' => e = .returned (.int .u64 (dig Y k : Nat)) ∧ W = w') :=
        fun W hW => digit_at A2 m c2 Y k w.heap.size (by omega) (by omega) W (H2.out.rd.below hW) H2.out.trm.1
      have lx := dig_lt X k
      have ly := dig_lt Y k
      have lq := carN_le X Y k
      have v1 : bits .and .u64 ((dig X k : Int) + (dig Y k : Int) + (carN X Y k : Int)) 4294967295 = (dig (X + Y) k : Int) := by
        have := and_low (dig X k + dig Y k + carN X Y k) (by omega)
        rw [← sum_digit] at this
        exact this
      have v2 : ((dig X k : Int) + (dig Y k : Int) + (carN X Y k : Int)) / 4294967296 = (carN X Y (k + 1) : Int) := by
        rw [carN_step]; omega
      have ls := dig_lt (X + Y) k
      have lc := carN_le X Y (k + 1)
      have HN : Hid (∀ j u, [Value.int .u32 (dig (X + Y) k : Nat)][j]? = some u → (wr.alloc (.cells #[.int .u32 (dig (X + Y) k : Nat)] 128)).cell? ((⟨wr.heap.size, 0, none⟩ : Addr).add j) = some u) := World.news_of_block (cs := #[.int .u32 (dig (X + Y) k : Nat)]) (heap_alloc_new wr _)
      have H3 := Lib.hid (one_of (Value.int .u32 (dig (X + Y) k : Nat)) rfl)
      by_cases hkn : k < n
      all_goals
        go_wp2_with fail
        refine (C1.out _ Hb.out).mono ?_
        rintro e w' ⟨rfl, rfl⟩
        go_wp2_with fail
        refine (C2.out _ Hb.out).mono ?_
        rintro e w' ⟨rfl, rfl⟩
        go_wp2_with (at_builtin; refine wpList_append_lies _ rfl (.tmp 30) (.tmp 34) 87 rfl w.heap.size 128 i0 _ 1 4 Tryd.underlying87 Hi.out Hz0.out Hz1.out Hz2.out rfl (by omega) _ k _ rfl (Hown.out.alloc _) ⟨wr.heap.size, 0, none⟩ 1 1 _ rfl rfl HN.out H3.out (by omega) (by unfold maxLen; omega) (by omega) (by simp; omega) (wr.heap.size + 1) (by simp) ?_; intro g cap w1 hown1 hgrow hat hlt1)
        have Hown1 := Lib.hid hown1; have Hg := Lib.hid hgrow; clear hown1 hgrow hat
        go_wp2_with fail
        go_roundw
        case rel => exact ⟨k + 1, by omega, by go_num, rfl, by rw [dcells_snoc]; exact Hown1.out, (Hb.out.alloc hB _).grown Hg.out (by simp; omega) (fun g hg => (Hown.out.lt g hg).1)⟩
        case measure => simp [intOf]; omega
    · obtain rfl : k = K := by omega
      have E := Lib.hid (sum_top X Y k HX.out HY.out)
      have L := Lib.hid (sum_lt X Y k HX.out HY.out)
      have hk1 : ¬ k < n := by omega
      have hk2 : ¬ k < m := by omega
      have lc := carN_le X Y k
      have HN : Hid (∀ j u, [Value.int .u32 (carN X Y k : Nat)][j]? = some u → (wr.alloc (.cells #[.int .u32 (carN X Y k : Nat)] 128)).cell? ((⟨wr.heap.size, 0, none⟩ : Addr).add j) = some u) := World.news_of_block (cs := #[.int .u32 (carN X Y k : Nat)]) (heap_alloc_new wr _)
      have H3 := Lib.hid (one_of (Value.int .u32 (carN X Y k : Nat)) rfl)
      go_wp2_with (at_builtin; refine wpList_append_lies _ rfl (.tmp 38) (.tmp 41) 87 rfl w.heap.size 128 i0 _ 1 4 Tryd.underlying87 Hi.out Hz0.out Hz1.out Hz2.out rfl (by omega) _ k _ rfl (Hown.out.alloc _) ⟨wr.heap.size, 0, none⟩ 1 1 _ rfl rfl HN.out H3.out (by omega) (by unfold maxLen; omega) (by omega) (by simp; omega) (wr.heap.size + 1) (by simp) ?_; intro g cap w1 hown1 hgrow hat hlt1)
      have Hr : Hid (Reads w1 w1.heap.size 1 (some ⟨g, 0, none⟩) (k + 1) (dcells (k + 1) (X + Y))) := by
        have := Reads.of_own hown1
        rw [dcells_snoc, E.out]
        exact this
      have hcap : k + 1 ≤ cap ∧ cap ≤ 9223372036854775807 := by
        obtain ⟨A', c', e, h3, h4⟩ := own_form2 hown1
        injection e with _ _ e
        subst e
        exact ⟨h3, h4⟩
      have Hb1 : Hid (Below w.heap.size w w1) := (Hb.out.alloc hB _).grown hgrow (by simp; omega) (fun g hg => (Hown.out.lt g hg).1)
      have Hf : Hid (∀ g', (Value.slice (some ⟨g, 0, none⟩) (k + 1) cap).ownBlock = some g' → w.heap.size ≤ g') := fun g' hg' => (hown1.lt g' hg').1
      clear hown1 hgrow hat Hown HN
      have CT := Lib.hid (trim_ret (by omega) Hr.out L.out hcap.1 hcap.2 Hf.out Hb1.out)
      clear hcap
      go_wp2_with fail
      refine CT.out.mono ?_
      rintro e w2 ⟨v, rfl, hv⟩
      have HV := Lib.hid hv
      clear hv
      go_wp2_with fail
      go_ret
      exact ⟨_, rfl, HV.out⟩
end Go.Proofs.YtfgeocpooimojaaDoor
namespace Go.Proofs.YtfgeocpooimojaaDoor
open Go Go.RowKit

section
variable {P : Program} {ops : Array Oper} {Q : Exit → Act → World → Prop} {md : Region.Mode} {S : World → Prop}
theorem put_none (a : Act) (v : Value) : a.put none v = a := rfl
theorem wpAnyK_nextd {i fuel : Nat} {oi : Oper} {d : Tmp} {v : Value} {listed : Array Bool} {a : Act} {w : World} (hr : Region.ready md ops listed = [i]) (hi : ops[i]? = some oi) (hd : oi.dst = some d) (hw : Region.wanted oi (yielded ops a.tmps) = true)
    (hSc : ∀ w w', S w → Below w.heap.size w w' → S w') (hS : S w) (he : ∀ w, S w → (execOp a.eval oi).run P w = .ok (.value v) w) (h : wpAnyK P md ops Q S fuel (listed.setIfInBounds i true) (a.put (some d) v) w) : wpAnyK P md ops Q S (fuel + 1) listed a w :=
  wpAnyK_next hr hi hw hSc hS he (by rw [hd]; exact h)
theorem wpAnyK_newd {i j fuel : Nat} {oi oj : Oper} {listed : Array Bool} {a : Act} {w W : World} {B : Nat} {ty : TypeId} {d : Tmp} {y : Operand} {z cs : Array Value} (hr : Region.ready md ops listed = [i]) (hi : ops[i]? = some oi) (hw : Region.wanted oi (yielded ops a.tmps) = true)
    (hop : oi.op = .alloc ty) (hd : oi.dst = some d) (hz : ∀ w, (zeroValue ty).run P w = .ok (.agg z) w) (hB : B ≤ W.heap.size) (hS : Below B W w)
    (hr2 : Region.ready md ops (listed.setIfInBounds i true) = [j]) (hj : ops[j]? = some oj) (hjd : oj.dst = none) (hjop : oj.op = .store ty (.tmp d) y)
    (hsz : (P.info? ty).map (·.size) = some cs.size) (hzs : z.size = cs.size) (hone : cs.all (·.oneCell') = true)
    (hwj : ∀ g, Region.wanted oj (yielded ops (a.put (some d) (.pointer (some ⟨g, 0, none⟩))).tmps) = true)
    (hd' : ∀ g, (a.put (some d) (.pointer (some ⟨g, 0, none⟩))).eval (.tmp d) = .pointer (some ⟨g, 0, none⟩)) (hy : ∀ g, (a.put (some d) (.pointer (some ⟨g, 0, none⟩))).eval y = .agg cs)
    (h : ∀ g w', w.heap.size ≤ g → Below B W w' → Below w.heap.size w w' → Blk w' g ty cs → wpAnyK P md ops Q (fun w' => Below B W w') fuel ((listed.setIfInBounds i true).setIfInBounds j true) (a.put (some d) (.pointer (some ⟨g, 0, none⟩))) w') :
    wpAnyK P md ops Q (fun w' => Below B W w') (fuel + 2) listed a w :=
  wpAnyK_new hr hi hw hop hd hz hB hS hr2 hj hjop hsz hzs hone hwj hd' hy (fun g w' h1 h2 h3 h4 => by rw [hjd]; exact h g w' h1 h2 h3 h4)
theorem wpAnyK_putd {i fuel : Nat} {oi : Oper} {listed : Array Bool} {a : Act} {w W : World} {B g : Nat} {ty : TypeId} {x y : Operand} {old cs : Array Value} (hr : Region.ready md ops listed = [i]) (hi : ops[i]? = some oi) (hd : oi.dst = none) (hw : Region.wanted oi (yielded ops a.tmps) = true)
    (hop : oi.op = .store ty x y) (hB : B ≤ W.heap.size) (hg : B ≤ g) (hS : Below B W w) (hG : Blk w g ty old) (hsz : (P.info? ty).map (·.size) = some cs.size) (hzs : old.size = cs.size) (hone : cs.all (·.oneCell') = true)
    (hx : a.eval x = .pointer (some ⟨g, 0, none⟩)) (hy : a.eval y = .agg cs)
    (h : ∀ w', Below B W w' → But g w w' → Blk w' g ty cs → wpAnyK P md ops Q (fun w' => Below B W w') fuel (listed.setIfInBounds i true) a w') :
    wpAnyK P md ops Q (fun w' => Below B W w') (fuel + 1) listed a w :=
  wpAnyK_put hr hi hw hop hB hg hS hG hsz hzs hone hx hy (fun w' h1 h2 h3 => by rw [hd]; exact h w' h1 h2 h3)
end
end Go.Proofs.YtfgeocpooimojaaDoor
namespace Go.Proofs.YtfgeocpooimojaaDoor
open Go Go.RowKit

theorem run_build1 (n : Int) (w : World) : (Instr.buildSlice 87 1 #[(0, .int .u32 n)]).run Tryd.prog w = .ok (.slice (some ⟨w.heap.size, 0, none⟩) 1 1) (w.alloc (.cells #[.int .u32 n] 128)) := by kernel_rfl
theorem wp_build1 {o : Oper} {a : Act} {w : World} {K : Act → World → Prop} {Q : Exit → Act → World → Prop} (x : Operand) (n : Int) (ho : o.op = .buildSlice 87 1 #[(0, x)]) (hx : a.eval x = .int .u32 n)
    (h : K (a.put o.dst (.slice (some ⟨w.heap.size, 0, none⟩) 1 1)) (w.alloc (.cells #[.int .u32 n] 128))) : o.wp Tryd.prog a w K Q := by
  unfold Oper.wp execOp
  simp only [ho, Sem.run_bind, List.map_toArray, List.map_cons, List.map_nil, hx, run_build1, Result.andThen_ok, Sem.run_pure]
  exact h
set_option maxHeartbeats 4000000 in
set_option maxRecDepth 100000 in
theorem half_at (A : Option Addr) (n c N : Nat) (hn : n ≤ 1000) (w : World) (h1 : NatS w A n c N) :
    Calls Tryd.prog 100 #[.slice A n c] w (RetNat w (N / 2)) := by
  have H1 := Lib.hid h1; clear h1
  obtain ⟨i0, hi, hz0, hz1, hz2⟩ := info_parts Tryd.infoU32
  have Hi := Lib.hid hi; have Hz0 := Lib.hid hz0; have Hz1 := Lib.hid hz1; have Hz2 := Lib.hid hz2; clear hi hz0 hz1 hz2
  go_enter Tryd.func100, Tryd.ntmps100
  go_wp2_with fail
  go_loopw [3, 4] (fun v i wr => ∃ k : Nat, k ≤ n ∧ i = .int .i64 (k : Int) ∧ Hid (wr.ownsRow w.heap.size 128 1 v k (dcells k (N / 2))) ∧ Hid (Below w.heap.size w wr)) (fun _ i _ => n - (intOf i).toNat)
  case atStart => exact ⟨0, Nat.zero_le _, rfl, World.ownsRow_nil _ _ _ _, Below.refl _ _⟩
  case round =>
    obtain ⟨k, hk, rfl, Hown, Hb⟩ := hrel
    have hBw := Hb.out.size
    by_cases hlt : k < n
    · obtain ⟨ad, u, rfl, hBk, hx, cx⟩ := (H1.out.rd.below Hb.out).at_ (k := k) hlt
      rw [dcells_get (by omega)] at hx
      cases hx
      have hB := hBw
      have C : Hid (∀ W, Below w.heap.size wr W → Calls Tryd.prog 103 #[.slice (some ad) n c, .int .i64 ((k : Int) + 1)] W fun e w' => e = .returned (.int .u64 (dig N (k + 1) : Nat)) ∧ Below W.heap.size W w') := by
        intro W hW
        refine (digit_at (some ad) n c N (k + 1) w.heap.size (by omega) (by omega) W ((H1.out.rd.below Hb.out).below hW) H1.out.trm.1).mono ?_
        rintro e w' ⟨rfl, rfl⟩
        exact ⟨rfl, Below.refl _ _⟩
      have k0 := keepB cx (show (ad.add k).block < w.heap.size by rw [block_of_add]; exact hBk)
      have l0 := dig_lt N k
      have l1 := dig_lt N (k + 1)
      have q2 : IntKind.i64.wrap ((k : Int) + 1) = (k : Int) + 1 := IntWalk.i64_in _ ⟨by omega, by omega⟩
      have i0' : (0 : Int) ≤ (k : Int) := by omega
      have i1' : (k : Int) < (n : Int) := by omega
      have HW := Lib.hid (half_word N k)
      clear cx
      go_wp2_with fail
      refine wp_region_Kn (n := 17) (S := fun w' => Below (w.heap.size) wr w') rfl (by kernel_rfl) ?_
      have hS0 : Below (w.heap.size) wr { wr with drawn := wr.drawn + 1 } := (Below.refl _ _).drew
      refine wpAnyK_taked (i := 0) (oi := _) (v := ?_) rfl rfl (by kernel_rfl) (by kernel_rfl) (by kernel_rfl) (fun _ _ _ h => h) (fun _ _ h k => h.trans (k.mono (Nat.le_trans hB h.size))) (yields_read (by rfl) ?hy0) hS0 ?_
      rotate_left
      case hy0 =>
        intro w' hSw
        go_simp
        try with_reducible rfl
      simp only [Act.put, List.setIfInBounds_toArray, List.set_cons_zero, List.set_cons_succ]
      refine wpAnyK_taked (i := 1) (oi := _) (v := ?_) rfl rfl (by kernel_rfl) (by kernel_rfl) (by kernel_rfl) (fun _ _ _ h => h) (fun _ _ h k => h.trans (k.mono (Nat.le_trans hB h.size))) (yields_read (by rfl) ?hy1) hS0 ?_
      rotate_left
      case hy1 =>
        intro w' hSw
        go_simp
        try with_reducible rfl
      simp only [Act.put, List.setIfInBounds_toArray, List.set_cons_zero, List.set_cons_succ]
      refine wpAnyK_taked (i := 2) (oi := _) (v := ?_) rfl rfl (by kernel_rfl) (by kernel_rfl) (by kernel_rfl) (fun _ _ _ h => h) (fun _ _ h k => h.trans (k.mono (Nat.le_trans hB h.size))) (yields_read (by rfl) ?hy2) hS0 ?_
      rotate_left
      case hy2 =>
        intro w' hSw
        go_simp
        try with_reducible rfl
      simp only [Act.put, List.setIfInBounds_toArray, List.set_cons_zero, List.set_cons_succ]
      refine wpAnyK_taked (i := 3) (oi := _) (v := ?_) rfl rfl (by kernel_rfl) (by kernel_rfl) (by kernel_rfl) (fun _ _ _ h => h) (fun _ _ h k => h.trans (k.mono (Nat.le_trans hB h.size))) (yields_read (by rfl) ?hy3) hS0 ?_
      rotate_left
      case hy3 =>
        intro w' hSw
        go_simp
        try with_reducible rfl
      simp only [Act.put, List.setIfInBounds_toArray, List.set_cons_zero, List.set_cons_succ]
      refine wpAnyK_taked (i := 4) (oi := _) (v := ?_) rfl rfl (by kernel_rfl) (by kernel_rfl) (by kernel_rfl) (fun _ _ _ h => h) (fun _ _ h k => h.trans (k.mono (Nat.le_trans hB h.size))) (yields_read (by rfl) ?hy4) hS0 ?_
      rotate_left
      case hy4 =>
        intro w' hSw
        go_simp
        try with_reducible rfl
      simp only [Act.put, List.setIfInBounds_toArray, List.set_cons_zero, List.set_cons_succ]
      refine wpAnyK_taked (i := 5) (oi := _) (v := ?_) rfl rfl (by kernel_rfl) (by kernel_rfl) (by kernel_rfl) (fun _ _ _ h => h) (fun _ _ h k => h.trans (k.mono (Nat.le_trans hB h.size))) (yields_read (by rfl) ?hy5) hS0 ?_
      rotate_left
      case hy5 =>
        intro w' hSw
        go_simp
        try with_reducible rfl
      simp only [Act.put, List.setIfInBounds_toArray, List.set_cons_zero, List.set_cons_succ]
      refine wpAnyK_taked (i := 6) (oi := _) (v := ?_) rfl rfl (by kernel_rfl) (by kernel_rfl) (by kernel_rfl) (fun _ _ _ h => h) (fun _ _ h k => h.trans (k.mono (Nat.le_trans hB h.size))) (yields_read (by rfl) ?hy6) hS0 ?_
      rotate_left
      case hy6 =>
        intro w' hSw
        go_simp
        try with_reducible rfl
      simp only [Act.put, List.setIfInBounds_toArray, List.set_cons_zero, List.set_cons_succ]
      refine wpAnyK_taked (i := 7) (oi := _) (v := ?_) rfl rfl (by kernel_rfl) (by kernel_rfl) (by kernel_rfl) (fun _ _ _ h => h) (fun _ _ h k => h.trans (k.mono (Nat.le_trans hB h.size))) (yields_read (by rfl) ?hy7) hS0 ?_
      rotate_left
      case hy7 =>
        intro w' hSw
        go_simp
        try with_reducible rfl
      simp only [Act.put, List.setIfInBounds_toArray, List.set_cons_zero, List.set_cons_succ]
      refine wpAnyK_taked (i := 8) (oi := _) (v := ?_) rfl rfl (by kernel_rfl) (by kernel_rfl) (by kernel_rfl) (fun _ _ _ h => h) (fun _ _ h k => h.trans (k.mono (Nat.le_trans hB h.size))) (yields_read (by rfl) ?hy8) hS0 ?_
      rotate_left
      case hy8 =>
        intro w' hSw
        go_simp
        try with_reducible rfl
      simp only [Act.put, List.setIfInBounds_toArray, List.set_cons_zero, List.set_cons_succ]
      refine wpAnyK_taked (i := 9) (oi := _) (v := _) rfl rfl (by kernel_rfl) (by kernel_rfl) (by kernel_rfl) (fun _ _ _ h => h) (fun _ _ h k => h.trans (k.mono (Nat.le_trans hB h.size))) (yields_call (by rfl) ?hy9 fun w hw => C.out w hw) hS0 ?_
      case hy9 =>
        intro w' hSw
        go_simp
        try with_reducible rfl
      simp only [Act.put, List.setIfInBounds_toArray, List.set_cons_zero, List.set_cons_succ]
      refine wpAnyK_taked (i := 10) (oi := _) (v := ?_) rfl rfl (by kernel_rfl) (by kernel_rfl) (by kernel_rfl) (fun _ _ _ h => h) (fun _ _ h k => h.trans (k.mono (Nat.le_trans hB h.size))) (yields_read (by rfl) ?hy10) hS0 ?_
      rotate_left
      case hy10 =>
        intro w' hSw
        go_simp
        try with_reducible rfl
      simp only [Act.put, List.setIfInBounds_toArray, List.set_cons_zero, List.set_cons_succ]
      refine wpAnyK_taked (i := 11) (oi := _) (v := ?_) rfl rfl (by kernel_rfl) (by kernel_rfl) (by kernel_rfl) (fun _ _ _ h => h) (fun _ _ h k => h.trans (k.mono (Nat.le_trans hB h.size))) (yields_read (by rfl) ?hy11) hS0 ?_
      rotate_left
      case hy11 =>
        intro w' hSw
        go_simp
        try with_reducible rfl
      simp only [Act.put, List.setIfInBounds_toArray, List.set_cons_zero, List.set_cons_succ]
      refine wpAnyK_taked (i := 12) (oi := _) (v := ?_) rfl rfl (by kernel_rfl) (by kernel_rfl) (by kernel_rfl) (fun _ _ _ h => h) (fun _ _ h k => h.trans (k.mono (Nat.le_trans hB h.size))) (yields_read (by rfl) ?hy12) hS0 ?_
      rotate_left
      case hy12 =>
        intro w' hSw
        go_simp
        try with_reducible rfl
      simp only [Act.put, List.setIfInBounds_toArray, List.set_cons_zero, List.set_cons_succ]
      refine wpAnyK_taked (i := 13) (oi := _) (v := ?_) rfl rfl (by kernel_rfl) (by kernel_rfl) (by kernel_rfl) (fun _ _ _ h => h) (fun _ _ h k => h.trans (k.mono (Nat.le_trans hB h.size))) (yields_read (by rfl) ?hy13) hS0 ?_
      rotate_left
      case hy13 =>
        intro w' hSw
        go_simp
        try with_reducible rfl
      simp only [Act.put, List.setIfInBounds_toArray, List.set_cons_zero, List.set_cons_succ]
      rw [HW.out]
      have Hown0 : Hid (World.ownsRow { wr with drawn := wr.drawn + 1 } w.heap.size 128 1 u3 k (dcells k (N / 2))) := Hown.out
      have hsz0 : w.heap.size ≤ (World.heap { wr with drawn := wr.drawn + 1 }).size := hBw
      clear k0 q2 HW C
      generalize { wr with drawn := wr.drawn + 1 } = w0 at *
      refine wpAnyK_one (i := 14) (by kernel_rfl) rfl (by rfl) fun w1 hb1 => ?_
      refine wp_build1 (.tmp 24) _ rfl rfl ?_
      have hs1 := hb1.size
      have S1 : Below w.heap.size wr (w1.alloc (.cells #[.int .u32 (dig (N / 2) k : Nat)] 128)) := (hS0.trans (hb1.mono hsz0)).alloc (by omega) _
      refine ⟨S1, ?_⟩
      simp only [Act.put, List.setIfInBounds_toArray]
      refine wpAnyK_one (i := 15) (by kernel_rfl) rfl (by rfl) fun w2 hb2 => ?_
      have hs2 := hb2.size
      have Hown2 : Hid (w2.ownsRow w.heap.size 128 1 u3 k (dcells k (N / 2))) := own_below ((own_below Hown0.out hb1).alloc _) hb2
      have HN : Hid (∀ j u, [Value.int .u32 (dig (N / 2) k : Nat)][j]? = some u → w2.cell? ((⟨w1.heap.size, 0, none⟩ : Addr).add j) = some u) := World.news_of_block (cs := #[.int .u32 (dig (N / 2) k : Nat)]) ((Blk.new w1 128 _).below hb2 (by simp))
      have H3 := Lib.hid (one_of (Value.int .u32 (dig (N / 2) k : Nat)) rfl)
      have S2 := S1.trans (hb2.mono (by simp; omega))
      have hz2 : w.heap.size ≤ w2.heap.size := by simp at hs2; omega
      refine wp_append_lies w2 (.tmp 11) (.tmp 25) 87 rfl w.heap.size 128 i0 _ 1 4 Tryd.underlying87 Hi.out Hz0.out Hz1.out Hz2.out rfl (by omega) _ k _ rfl Hown2.out ⟨w1.heap.size, 0, none⟩ 1 1 _ rfl rfl HN.out H3.out (by omega) (by unfold maxLen; omega) (by omega) hz2 _ rfl ?_
      intro g cap w3 hown3 hgrow hat hlt3
      have S3 : Below w.heap.size wr w3 := S2.grown hgrow hz2 (fun g hg => (Hown2.out.lt g hg).1)
      refine ⟨S3, ?_⟩
      simp only [Act.put]
      have Hown3 := Lib.hid hown3
      clear hown3 hat hgrow
      refine wpAnyK_nextd (i := 16) (by kernel_rfl) rfl rfl (by rfl) (fun _ _ h k => h.trans (k.mono (Nat.le_trans hB h.size))) S3 (fun _ _ => rfl) ?_
      simp only [Act.put]
      refine wpAnyK_done (by kernel_rfl) (fun w4 hb4 => ?_) _
      have Hown4 : Hid (w4.ownsRow w.heap.size 128 1 (.slice (some ⟨g, 0, none⟩) (k + 1) cap) (k + 1) (dcells (k + 1) (N / 2))) := by
        unfold Hid
        rw [dcells_snoc]
        exact own_below Hown3.out hb4
      have Hb4 : Hid (Below w.heap.size w w4) := Hb.out.trans (S3.trans (hb4.mono (Nat.le_trans hB S3.size)))
      clear Hown3 Hown2 Hown0 Hown S1 S2 S3 hS0 hb1 hb2 hb4 HN hs1 hs2 Hb
      go_wp2_with fail
      go_roundw
      case rel => exact ⟨k + 1, by omega, by go_num, Hown4.out, Hb4.out⟩
      case measure => simp [intOf]; omega
    · obtain rfl : k = n := by omega
      have L : Hid (N / 2 < 4294967296 ^ k) := Nat.lt_of_le_of_lt (Nat.div_le_self _ _) H1.out.trm.1
      obtain ⟨A', c', rfl, hc1, hc2⟩ := own_form2 Hown.out
      have CT : Hid (Calls Tryd.prog 101 #[.slice A' k c'] wr (RetNat w (N / 2))) := trim_ret (by omega) (Reads.of_own Hown.out) L.out hc1 hc2 (fun g hg => (Hown.out.lt g hg).1) Hb.out
      clear Hown
      go_wp2_with fail
      refine CT.out.mono ?_
      rintro e w2 ⟨v, rfl, hv⟩
      have HV := Lib.hid hv
      clear hv
      go_wp2_with fail
      go_ret
      exact ⟨_, rfl, HV.out⟩
end Go.Proofs.YtfgeocpooimojaaDoor
