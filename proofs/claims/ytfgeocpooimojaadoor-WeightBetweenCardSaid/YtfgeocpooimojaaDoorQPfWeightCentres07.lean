/-
  Functions of the reference of wide integers: times. Conditions: as each theorem states them. Functions of the reference of wide integers: Of, Mul and Cmp of numbers that are not negative. Conditions: as each theorem states them.
-/
import Derived.Test.YtfgeocpooimojaaDoorQPfWeightCentres06
import Derived.Test.YtfgeocpooimojaaDoorQPfWeightCentres00
import Derived.Test.YtfgeocpooimojaaDoorQPfWeightCentres04
namespace Go.Proofs.YtfgeocpooimojaaDoor
open Go Go.RowKit

theorem u64_in (x : Nat) (h : x < 18446744073709551616) : IntKind.u64.wrap (x : Int) = x := by rw [IntKind.wrap_u64]; omega
set_option maxHeartbeats 4000000 in
set_option maxRecDepth 100000 in
theorem refTimes_at (X Y : Nat) (hX : X < 4294967296 ^ 8) (hY : Y < 4294967296 ^ 8) (hP : X * Y < 4294967296 ^ 8) (w : World) :
    Calls Tryd.prog 65 #[.agg (digs 8 (dig X)), .agg (digs 8 (dig Y))] w fun e w' => e = .returned (.tuple #[.agg (digs 8 (dig (X * Y))), .bool false]) ∧ Below w.heap.size w w' := by
  have HX := Lib.hid hX; clear hX
  have HY := Lib.hid hY; clear hY
  have HP := Lib.hid hP; clear hP
  have HB0 := Lib.hid (blk_start3 w 92 92 92 (digs 8 (dig X)) (digs 8 (dig Y)) (digs 8 (fun _ => 0)))
  have HB1 : Hid (Blk ((((w.alloc (.cells (digs 8 (dig X)) 92)).alloc (.cells (digs 8 (dig Y)) 92)).alloc (.cells (digs 8 (fun _ => 0)) 92)).alloc (.cells (digs 16 (fun j => dig (low X 0 * Y) j)) 118)) (w.heap.size + 1 + 1 + 1) 118 (digs 16 (fun j => dig (low X 0 * Y) j))) := by
    have := Blk.new (((w.alloc (.cells (digs 8 (dig X)) 92)).alloc (.cells (digs 8 (dig Y)) 92)).alloc (.cells (digs 8 (fun _ => 0)) 92)) 118 (digs 16 (fun j => dig (low X 0 * Y) j))
    simpa [Hid] using this
  go_enter Tryd.func65, Tryd.ntmps65
  go_wp2_with fail
  go_loopw [7] (fun i wr => ∃ k : Nat, k ≤ 8 ∧ i = .int .i64 k ∧ Hid (Blk wr w.heap.size 92 (digs 8 (dig X))) ∧ Hid (Blk wr (w.heap.size + 1) 92 (digs 8 (dig Y))) ∧ Hid (Blk wr (w.heap.size + 1 + 1) 92 (digs 8 (fun _ => 0))) ∧ Hid (Blk wr (w.heap.size + 1 + 1 + 1) 118 (digs 16 (fun j => dig (low X k * Y) j))) ∧ Hid (Below w.heap.size w wr)) (fun i _ => 8 - (intOf i).toNat)
  case atStart =>
    refine ⟨0, by omega, rfl, HB0.out.1.alloc _, HB0.out.2.1.alloc _, HB0.out.2.2.alloc _, ?_, by unfold Hid; go_grown⟩
    have e : digs 16 (fun j => dig (low X 0 * Y) j) = digs 16 (fun _ => 0) := digs_congr fun j _ => by rw [low_zero, Nat.zero_mul, dig_zero]
    have := HB1.out
    rw [e] at this
    unfold Hid
    rw [e]
    exact this
  case round =>
    obtain ⟨i, hi, rfl, KX, KY, KR, KD, Hb⟩ := hrel
    clear HB0 HB1
    by_cases hi8 : i < 8
    · go_wp2_with fail
      obtain ⟨wo, rfl⟩ : ∃ wo : World, wo = wr := ⟨_, rfl⟩
      go_loopw [8, 9] (fun c t wr => ∃ (k q : Nat), k ≤ 8 ∧ t = .int .i64 k ∧ c = .int .u64 (q : Nat) ∧ q < 4294967296 ∧ Hid (q + upTo (low X i * Y) (i + k) = upTo (accV X Y i k) (i + k)) ∧ Hid (Blk wr w.heap.size 92 (digs 8 (dig X))) ∧ Hid (Blk wr (w.heap.size + 1) 92 (digs 8 (dig Y))) ∧ Hid (Blk wr (w.heap.size + 1 + 1) 92 (digs 8 (fun _ => 0))) ∧ Hid (Blk wr (w.heap.size + 1 + 1 + 1) 118 (digs 16 (fun j => if j < i + k then dig (accV X Y i k) j else dig (low X i * Y) j))) ∧ Hid (Below w.heap.size w wr)) (fun _ t _ => 8 - (intOf t).toNat)
      case atStart =>
        refine ⟨0, 0, by omega, rfl, rfl, by omega, ?_, KX.out, KY.out, KR.out, ?_, Hb.out⟩
        · unfold Hid; rw [accV_zero]; omega
        · unfold Hid
          rw [digs_congr (g := fun j => dig (low X i * Y) j)]
          · exact KD.out
          · intro j _; rw [accV_zero]; split <;> rfl
      case round =>
        obtain ⟨k, q, hk, rfl, rfl, hq, HV, KX', KY', KR', KD', Hb'⟩ := hrel
        clear KX KY KR KD Hb
        by_cases hk8 : k < 8
        · have S := Lib.hid (mul_step X Y i k q HV.out)
          have R := Lib.hid (mul_room q (dig (low X i * Y) (i + k)) (dig X i) (dig Y k) hq (dig_lt _ _) (dig_lt _ _) (dig_lt _ _))
          have c0 : wr.cell? ⟨w.heap.size + 1 + 1 + 1, i + k, none⟩ = some (.int .u64 (dig (low X i * Y) (i + k) : Nat)) := (KD'.out.cell _).trans ((digs_get _ (by omega)).trans (by rw [if_neg (by omega)]))
          have c1 : wr.cell? ⟨w.heap.size, i, none⟩ = some (.int .u64 (dig X i : Nat)) := (KX'.out.cell _).trans (digs_get _ (by omega))
          have c2 : wr.cell? ⟨w.heap.size + 1, k, none⟩ = some (.int .u64 (dig Y k : Nat)) := (KY'.out.cell _).trans (digs_get _ (by omega))
          have cf : wr.frozen? ⟨w.heap.size + 1 + 1 + 1, i + k, none⟩ = false := KD'.out.frozen _
          generalize dig (low X i * Y) (i + k) = D0 at *
          generalize dig X i = x at *
          generalize dig Y k = y at *
          obtain ⟨s, hs⟩ : ∃ s, s = q + D0 + x * y := ⟨_, rfl⟩
          have R1 : s < 18446744073709551616 := by rw [hs]; exact R.out.1
          have u1 : IntKind.u64.wrap ((q : Int) + (D0 : Int)) = (q : Int) + (D0 : Int) := u64_in (q + D0) (by have := R.out.1; omega)
          have u2 : IntKind.u64.wrap ((x : Int) * (y : Int)) = (x : Int) * (y : Int) := u64_in (x * y) R.out.2.1
          have u3 : IntKind.u64.wrap ((q : Int) + (D0 : Int) + (x : Int) * (y : Int)) = (s : Int) := by rw [hs]; exact u64_in (q + D0 + x * y) R.out.1
          rw [← hs] at S R
          clear hs
          have i0 : (0 : Int) ≤ (i : Int) := by omega
          have i1 : (i : Int) < 8 := by omega
          have k0 : (0 : Int) ≤ (k : Int) := by omega
          have k1 : (k : Int) < 8 := by omega
          have j0 : (0 : Int) ≤ (i : Int) + (k : Int) := by omega
          have j1 : (i : Int) + (k : Int) < 16 := by omega
          have j2 : ((i : Int) + (k : Int)).toNat = i + k := by omega
          have j3 : IntKind.i64.wrap ((i : Int) + (k : Int)) = (i : Int) + (k : Int) := IntWalk.i64_in _ ⟨by omega, by omega⟩
          have R1' := Lib.hid R1
          clear R1
          go_wp2_with fail
          go_quiet (fail)
          clear u1 u2 u3 j3
          go_wp2_with fail
          go_roundw
          case rel =>
            have eq1 : (s : Int) % 4294967296 = ((s % 4294967296 : Nat) : Int) := by omega
            have eq2 : IntKind.u64.wrap ((s : Int) / 4294967296) = ((s / 4294967296 : Nat) : Int) := by rw [IntKind.wrap_u64]; have := R1'.out; omega
            rw [eq1, eq2]
            refine ⟨k + 1, s / 4294967296, by omega, by go_num, rfl, R.out.2.2, S.out.2.1, (KX'.out.drewN _).far (p := ⟨w.heap.size + 1 + 1 + 1, i + k, none⟩) (by simp; omega) _, (KY'.out.drewN _).far (p := ⟨w.heap.size + 1 + 1 + 1, i + k, none⟩) (by simp) _, (KR'.out.drewN _).far (p := ⟨w.heap.size + 1 + 1 + 1, i + k, none⟩) (by simp) _, ?_, ?_⟩
            · have := (KD'.out.drewN nq).set_ (i + k) (.int .u64 (s % 4294967296 : Nat))
              rw [digs_set _ (by omega), digs_congr (g := fun j => if j < i + (k + 1) then dig (accV X Y i (k + 1)) j else dig (low X i * Y) j)] at this
              · exact this
              · intro j _
                by_cases e : j = i + k
                · rw [if_pos e, e, if_pos (by omega), S.out.1]
                · rw [if_neg e]
                  by_cases e2 : j < i + k
                  · rw [if_pos e2, if_pos (by omega), S.out.2.2 j e2]
                  · rw [if_neg e2, if_neg (by omega)]
            · exact (below_drewN Hb'.out nq).setCell (by simp; omega) _
          case measure => simp [intOf]; omega
        · obtain rfl : k = 8 := by omega
          have E := Lib.hid (mul_round X Y i q HY.out hq HV.out)
          have cf : wr.frozen? ⟨w.heap.size + 1 + 1 + 1, i + 8, none⟩ = false := KD'.out.frozen _
          have c0 : wr.cell? ⟨w.heap.size + 1 + 1 + 1, i + 8, none⟩ = some (.int .u64 (dig (low X i * Y) (i + 8) : Nat)) := (KD'.out.cell _).trans ((digs_get _ (by omega)).trans (by rw [if_neg (by omega)]))
          have j0 : (0 : Int) ≤ (i : Int) + 8 := by omega
          have j1 : (i : Int) + 8 < 16 := by omega
          have j2 : ((i : Int) + 8).toNat = i + 8 := by omega
          go_wp2_with fail
          go_roundw
          case rel =>
            refine ⟨i + 1, by omega, by go_num, KX'.out.far (p := ⟨w.heap.size + 1 + 1 + 1, i + 8, none⟩) (by simp; omega) _, KY'.out.far (p := ⟨w.heap.size + 1 + 1 + 1, i + 8, none⟩) (by simp) _, KR'.out.far (p := ⟨w.heap.size + 1 + 1 + 1, i + 8, none⟩) (by simp) _, ?_, ?_⟩
            · have := KD'.out.set_ (i + 8) (.int .u64 (q : Nat))
              rw [digs_set _ (by omega), digs_congr (g := fun j => dig (low X (i + 1) * Y) j)] at this
              · exact this
              · intro j _
                exact E.out j
            · exact Hb'.out.setCell (by simp; omega) _
          case measure => simp [intOf]; omega
    · obtain rfl : i = 8 := by omega
      have e : low X 8 = X := low_all X 8 HX.out
      rw [e] at KD
      clear e
      have lD := KD.out.lt
      go_wp2_with fail
      go_loopw [11, 12] (fun o t w3 => ∃ k : Nat, k ≤ 8 ∧ t = .int .i64 k ∧ o = .bool false ∧ Hid (Blk w3 (w.heap.size + 1 + 1) 92 (digs 8 (fun _ => 0))) ∧ Hid (Blk w3 (w.heap.size + 1 + 1 + 1) 118 (digs 16 (fun j => dig (X * Y) j))) ∧ Hid (Blk w3 wr.heap.size 92 (digs 8 (fun j => if j < k then dig (X * Y) j else 0))) ∧ Hid (Below w.heap.size w w3)) (fun _ t _ => 8 - (intOf t).toNat)
      case atStart => exact ⟨0, by omega, rfl, rfl, KR.out.alloc _, KD.out.alloc _, Blk.new wr _ _, Hb.out.alloc Hb.out.size _⟩
      case round =>
        obtain ⟨k, hk, rfl, rfl, KR3, KD3, KO3, Hb3⟩ := hrel
        rename World => w3
        clear KX KY KR KD Hb
        by_cases hk8 : k < 8
        · have z : dig (X * Y) (k + 8) = 0 := by rw [dig_of_upTo, upTo_top _ _ (Nat.lt_of_lt_of_le HP.out (Nat.pow_le_pow_right (by decide) (by omega)))]
          have c0 : w3.cell? ⟨w.heap.size + 1 + 1 + 1, k, none⟩ = some (.int .u64 (dig (X * Y) k : Nat)) := (KD3.out.cell _).trans (digs_get _ (by omega))
          have c1 : w3.cell? ⟨w.heap.size + 1 + 1 + 1, k + 8, none⟩ = some (.int .u64 0) := (KD3.out.cell _).trans ((digs_get _ (by omega)).trans (by rw [z]; rfl))
          have c2 : w3.cell? ⟨wr.heap.size, k, none⟩ = some (.int .u64 (0 : Nat)) := (KO3.out.cell _).trans ((digs_get _ (by omega)).trans (by rw [if_neg (by omega)]))
          have cf : w3.frozen? ⟨wr.heap.size, k, none⟩ = false := KO3.out.frozen _
          have j0 : (0 : Int) ≤ (k : Int) + 8 := by omega
          have j1 : (k : Int) + 8 < 16 := by omega
          have j2 : ((k : Int) + 8).toNat = k + 8 := by omega
          have j3 : (k : Int) < 8 := by omega
          have ne : wr.heap.size ≠ w.heap.size + 1 + 1 + 1 := by omega
          clear z
          go_wp2_with fail
          go_roundw
          case rel =>
            refine ⟨k + 1, by omega, by go_num, rfl, KR3.out.far (p := ⟨wr.heap.size, k, none⟩) (by simp; omega) _, KD3.out.far (p := ⟨wr.heap.size, k, none⟩) (by simp; omega) _, ?_, Hb3.out.setCell (by simp; omega) _⟩
            have := KO3.out.set_ k (.int .u64 (dig (X * Y) k : Nat))
            rw [digs_set _ (by omega), digs_congr (g := fun j => if j < k + 1 then dig (X * Y) j else 0)] at this
            · exact this
            · intro j _
              by_cases e : j = k
              · rw [if_pos e, e, if_pos (by omega)]
              · rw [if_neg e]
                by_cases e2 : j < k
                · rw [if_pos e2, if_pos (by omega)]
                · rw [if_neg e2, if_neg (by omega)]
          case measure => simp [intOf]; omega
        · obtain rfl : k = 8 := by omega
          have KO : Hid (Blk w3 wr.heap.size 92 (digs 8 (dig (X * Y)))) := by
            have := KO3.out
            rw [digs_congr (g := dig (X * Y))] at this
            · exact this
            · intro j hj; exact if_pos (by omega)
          clear KO3
          have c0 := KO.out.cell 0; have c1 := KO.out.cell 1; have c2 := KO.out.cell 2; have c3 := KO.out.cell 3; have c4 := KO.out.cell 4; have c5 := KO.out.cell 5; have c6 := KO.out.cell 6; have c7 := KO.out.cell 7
          rw [digs_get _ (by omega)] at c0 c1 c2 c3 c4 c5 c6 c7
          have r0 := KR3.out.cell 0; have r1 := KR3.out.cell 1; have r2 := KR3.out.cell 2; have r3 := KR3.out.cell 3; have r4 := KR3.out.cell 4; have r5 := KR3.out.cell 5; have r6 := KR3.out.cell 6; have r7 := KR3.out.cell 7
          rw [digs_get _ (by omega)] at r0 r1 r2 r3 r4 r5 r6 r7
          have f0 := KR3.out.frozen 0; have f1 := KR3.out.frozen 1; have f2 := KR3.out.frozen 2; have f3 := KR3.out.frozen 3; have f4 := KR3.out.frozen 4; have f5 := KR3.out.frozen 5; have f6 := KR3.out.frozen 6; have f7 := KR3.out.frozen 7
          go_wp2_with fail
          refine bodyPost_ret (results_cell_tmp rfl _ _ (w.heap.size + 1 + 1) 92 (digs 8 (dig (X * Y))) _ rfl (by with_reducible exact blk_row8 KR3.out (dig (X * Y))) Tryd.underlying92 rfl (by rw [digs_size]; kernel_rfl)) rfl ⟨rfl, ?_⟩
          have := Hb3.out
          go_grown
end Go.Proofs.YtfgeocpooimojaaDoor
namespace Go.Proofs.YtfgeocpooimojaaDoor
open Go Go.RowKit

theorem wideC_small (n : Bool) (M : Nat) (h : M < 18446744073709551616) : wideC n M = #[.bool n, .int .u64 (M : Nat), .int .u64 0, .int .u64 0, .int .u64 0] := by
  have h0 : wd M 0 = M := by unfold wd; rw [Nat.pow_zero, Nat.div_one, Nat.mod_eq_of_lt h]
  have hz : ∀ i, 0 < i → wd M i = 0 := fun i hi => by
    unfold wd
    rw [Nat.div_eq_of_lt (Nat.lt_of_lt_of_le h (by have := Nat.pow_le_pow_right (n := 18446744073709551616) (by decide) hi; simpa using this))]
  unfold wideC
  rw [h0, hz 1 (by decide), hz 2 (by decide), hz 3 (by decide)]
  simp
theorem Tryd.infoD8 : (Tryd.prog.info? 92).map (fun i => (i.zero, i.size)) = some (some (.agg (digs 8 (fun _ => 0))), 8) := by kernel_rfl
theorem digs_one (n : Nat) (f : Nat → Nat) : (digs n f).all (·.oneCell') = true := by
  rw [Array.all_eq_true_iff_forall_mem]
  intro v hv
  simp [digs] at hv
  obtain ⟨j, _, rfl⟩ := hv
  rfl
abbrev wideZ : Array Value := #[.bool false, .int .u64 0, .int .u64 0, .int .u64 0, .int .u64 0]
theorem refOf_at (n : Int) (h1 : -9223372036854775808 ≤ n) (h2 : n ≤ 9223372036854775807) (w : World) : Calls Tryd.prog 42 #[.int .i64 n] w fun e w' => e = .returned (.agg (wideC (decide (n < 0)) n.natAbs)) ∧ Below w.heap.size w w' := by
  have E := Lib.hid (wideC_small (decide (n < 0)) n.natAbs (by omega))
  have HB := Lib.hid (Blk.new w 35 wideZ)
  by_cases hn : n < 0
  · have q1 : IntKind.u64.wrap (-(n + 1)) = -(n + 1) := by rw [IntKind.wrap_u64]; omega
    have q2 : IntKind.u64.wrap (-(n + 1) + 1) = (n.natAbs : Int) := by rw [IntKind.wrap_u64]; omega
    have hd : decide (n < 0) = true := by simpa using hn
    rw [hd] at E ⊢
    go_enter Tryd.func42, Tryd.ntmps42
    go_wp2_with fail
    refine bodyPost_ret (results_cell_one rfl _ _ w.heap.size 35 (wideC true n.natAbs) _ rfl (E.out ▸ Blk.new w _ _) Tryd.underlying35 rfl (by kernel_rfl)) rfl ⟨rfl, ?_⟩
    go_grown
  · have hd : decide (n < 0) = false := by simpa using hn
    have q1 : IntKind.u64.wrap n = (n.natAbs : Int) := by rw [IntKind.wrap_u64]; omega
    rw [hd] at E ⊢
    go_enter Tryd.func42, Tryd.ntmps42
    go_wp2_with fail
    refine bodyPost_ret (results_cell_one rfl _ _ w.heap.size 35 (wideC false n.natAbs) _ rfl (E.out ▸ Blk.new w _ _) Tryd.underlying35 rfl (by kernel_rfl)) rfl ⟨rfl, ?_⟩
    go_grown
set_option maxHeartbeats 1000000 in
theorem refMul_at (n : Bool) (X Y : Nat) (hX : X < 4294967296 ^ 8) (hY : Y < 4294967296 ^ 8) (hP : X * Y < 4294967296 ^ 8) (w : World) :
    Calls Tryd.prog 43 #[.agg (wideC n X), .agg (wideC n Y)] w fun e w' => e = .returned (.tuple #[.agg (wideC false (X * Y)), .int .i64 0]) ∧ Below w.heap.size w w' := by
  have HB := Lib.hid (blk_start3 w 35 35 35 (wideC n X) (wideC n Y) wideZ)
  have CS := Lib.hid (refSplit_at n X)
  have CT := Lib.hid (refSplit_at n Y)
  have CU := Lib.hid (refTimes_at X Y hX hY hP)
  clear hX hY hP
  go_enter Tryd.func43, Tryd.ntmps43
  go_wp2_with fail
  have K0 := HB.out.1; have K1 := HB.out.2.1; have K2 := HB.out.2.2
  have Hb : Below w.heap.size w (((w.alloc (.cells (wideC n X) 35)).alloc (.cells (wideC n Y) 35)).alloc (.cells wideZ 35)) := by go_grown
  clear HB
  generalize ((w.alloc (.cells (wideC n X) 35)).alloc (.cells (wideC n Y) 35)).alloc (.cells wideZ 35) = W at *
  have H0 := Lib.hid K0; have H1 := Lib.hid K1; have H2 := Lib.hid K2; have Hb0 := Lib.hid Hb
  have a0 := keepc (H0.out.cell 0); have a1 := keepc (H0.out.cell 1); have a2 := keepc (H0.out.cell 2); have a3 := keepc (H0.out.cell 3); have a4 := keepc (H0.out.cell 4)
  have b0 := keepc (H1.out.cell 0); have b1 := keepc (H1.out.cell 1); have b2 := keepc (H1.out.cell 2); have b3 := keepc (H1.out.cell 3); have b4 := keepc (H1.out.cell 4)
  clear K0 K1 K2 Hb
  refine wp_region_Kn (n := 11) (S := fun w' => Below (W.heap.size) W w') rfl (by kernel_rfl) ?_
  have hS0 : Below (W.heap.size) W { W with drawn := W.drawn + 1 } := (Below.refl _ _).drew
  refine wpAnyK_take (i := 0) (oi := _) (v := ?_) rfl (by kernel_rfl) (by kernel_rfl) (by kernel_rfl) (fun _ _ _ h => h) (fun _ _ => Below.later) (yields_read (by rfl) ?hy0) hS0 ?_
  rotate_left
  case hy0 =>
    intro w' hSw
    go_simp
    try with_reducible rfl
  simp only [Act.put]
  refine wpAnyK_take (i := 1) (oi := _) (v := _) rfl (by kernel_rfl) (by kernel_rfl) (by kernel_rfl) (fun _ _ _ h => h) (fun _ _ => Below.later) (yields_call (by rfl) ?hy1 fun w _ => CS.out w) hS0 ?_
  case hy1 =>
    intro w' hSw
    go_simp
    try with_reducible rfl
  simp only [Act.put]
  refine wpAnyK_take (i := 2) (oi := _) (v := ?_) rfl (by kernel_rfl) (by kernel_rfl) (by kernel_rfl) (fun _ _ _ h => h) (fun _ _ => Below.later) (yields_read (by rfl) ?hy2) hS0 ?_
  rotate_left
  case hy2 =>
    intro w' hSw
    go_simp
    try with_reducible rfl
  simp only [Act.put]
  refine wpAnyK_take (i := 3) (oi := _) (v := _) rfl (by kernel_rfl) (by kernel_rfl) (by kernel_rfl) (fun _ _ _ h => h) (fun _ _ => Below.later) (yields_call (by rfl) ?hy3 fun w _ => CT.out w) hS0 ?_
  case hy3 =>
    intro w' hSw
    go_simp
    try with_reducible rfl
  simp only [Act.put]
  refine wpAnyK_take (i := 4) (oi := _) (v := _) rfl (by kernel_rfl) (by kernel_rfl) (by kernel_rfl) (fun _ _ _ h => h) (fun _ _ => Below.later) (yields_call (by rfl) ?hy4 fun w _ => CU.out w) hS0 ?_
  case hy4 =>
    intro w' hSw
    go_simp
    try with_reducible rfl
  simp only [Act.put]
  refine wpAnyK_take (i := 5) (oi := _) (v := ?_) rfl (by kernel_rfl) (by kernel_rfl) (by kernel_rfl) (fun _ _ _ h => h) (fun _ _ => Below.later) (yields_read (by rfl) ?hy5) hS0 ?_
  rotate_left
  case hy5 =>
    intro w' hSw
    go_simp
    try with_reducible rfl
  simp only [Act.put]
  refine wpAnyK_take (i := 6) (oi := _) (v := ?_) rfl (by kernel_rfl) (by kernel_rfl) (by kernel_rfl) (fun _ _ _ h => h) (fun _ _ => Below.later) (yields_read (by rfl) ?hy6) hS0 ?_
  rotate_left
  case hy6 =>
    intro w' hSw
    go_simp
    try with_reducible rfl
  simp only [Act.put]
  refine wpAnyK_take (i := 7) (oi := _) (v := ?_) rfl (by kernel_rfl) (by kernel_rfl) (by kernel_rfl) (fun _ _ _ h => h) (fun _ _ => Below.later) (yields_read (by rfl) ?hy7) hS0 ?_
  rotate_left
  case hy7 =>
    intro w' hSw
    go_simp
    try with_reducible rfl
  simp only [Act.put]
  clear a0 a1 a2 a3 a4 b0 b1 b2 b3 b4 CS CT CU
  refine wpAnyK_new (i := 8) (j := 9) (d := 6) (cs := digs 8 (dig (X * Y))) (by kernel_rfl) rfl (by rfl) rfl rfl (zero_of_info Tryd.infoD8).1 (Nat.le_refl _) hS0 (by kernel_rfl) rfl rfl (by rw [digs_size]; exact (zero_of_info Tryd.infoD8).2) (by rw [digs_size, digs_size]) (digs_one _ _) (fun _ => by rfl) ?hd ?hy ?_
  case hd => intro g; go_simp
  case hy => intro g; go_simp
  intro g w1 hg hS1 hb1 HG
  refine wpAnyK_next (i := 10) (v := ?_) (by kernel_rfl) rfl (by rfl) (fun _ _ => Below.later) hS1 ?hn ?_
  rotate_left
  case hn =>
    intro w' hSw
    go_simp
    try with_reducible rfl
  refine wpAnyK_done (by kernel_rfl) ?_ _
  intro w2 hb2
  have hS2 := Below.later hS1 hb2
  have HG2 := Lib.hid (HG.below hb2 HG.lt)
  have J0 := Lib.hid (H0.out.below hS2 H0.out.lt); have J1 := Lib.hid (H1.out.below hS2 H1.out.lt); have J2 := Lib.hid (H2.out.below hS2 H2.out.lt)
  have Hb2 := Lib.hid (Hb0.out.trans (hS2.mono Hb0.out.size))
  clear hb2 hS2 HG H0 H1 H2 Hb0 hS1 hb1 hS0
  have c0 := J0.out.cell 0; have c1 := J1.out.cell 0
  simp at c0 c1
  simp only [Act.put]
  go_wp2_with (first | (refine wpList_load_row rfl 92 (.tmp 6) rfl g rfl 92 (digs 8 (dig (X * Y))) (0, 0) _ HG2.out Tryd.underlying92 rfl (by rw [digs_size]; exact (zero_of_info Tryd.infoD8).2) ?_) | (go_at_call 67; refine (refJoin_at (X * Y) _).mono ?_; rintro e w3 ⟨rfl, hb3⟩; have L2 := Lib.hid (J2.out.below hb3 J2.out.lt); have Hb3 := Lib.hid (Hb2.out.trans (hb3.mono Hb2.out.size)); have z0 := L2.out.cell 0; have z1 := L2.out.cell 1; have z2 := L2.out.cell 2; have z3 := L2.out.cell 3; have z4 := L2.out.cell 4; simp at z0 z1 z2 z3 z4; have f0 := L2.out.frozen 0; have f1 := L2.out.frozen 1; have f2 := L2.out.frozen 2; have f3 := L2.out.frozen 3; have f4 := L2.out.frozen 4; clear hb3))
  refine bodyPost_ret (results_cell_tmp rfl _ _ (w.heap.size + 1 + 1) 35 (wideC false (X * Y)) _ rfl (by with_reducible exact blk_set5' L2.out _ _ _ _ _) Tryd.underlying35 rfl (by kernel_rfl)) rfl ⟨rfl, ?_⟩
  have := Hb3.out
  go_grown
end Go.Proofs.YtfgeocpooimojaaDoor
