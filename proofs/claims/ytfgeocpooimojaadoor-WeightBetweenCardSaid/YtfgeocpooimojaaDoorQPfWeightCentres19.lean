/-
  Natural numbers as slices of digits (reference of ratios): divide. Conditions: as each theorem states them.
-/
import Derived.Test.YtfgeocpooimojaaDoorQPfWeightCentres18
import Derived.Test.YtfgeocpooimojaaDoorQPfWeightCentres11
namespace Go.Proofs.YtfgeocpooimojaaDoor
open Go Go.RowKit

/-- Two numbers are returned: quotient and rest. -/
def RetDiv (w : World) (X Y : Nat) (e : Ending) (w' : World) : Prop := ∃ v u, e = .returned (.tuple #[v, u]) ∧ NatV w' v (X / Y) ∧ NatV w' u (X % Y) ∧ Below w.heap.size w w'
theorem small_nat (x : Nat) (hx : x < 18446744073709551616) (w : World) : Calls Tryd.prog 86 #[.int .u64 (x : Nat)] w (RetNat w x) := by
  refine (small_at x hx w).mono ?_
  rintro e w' ⟨rfl, rfl⟩
  have hr : Reads (w.alloc (.cells #[.int .u32 (dig x 0 : Nat), .int .u32 (dig x 1 : Nat)] 128)) (w.alloc (.cells #[.int .u32 (dig x 0 : Nat), .int .u32 (dig x 1 : Nat)] 128)).heap.size 1 (some ⟨w.heap.size, 0, none⟩) 2 (dcells 2 x) :=
    blk_reads (n := 2) (size := 1) (Blk.new w 128 #[.int .u32 (dig x 0 : Nat), .int .u32 (dig x 1 : Nat)]) rfl
  exact ⟨_, rfl, ⟨_, _, _, rfl, natS_trim hr (by simpa using hx) (by omega) (by omega)⟩, (fun g hg => by cases hg; exact Nat.le_refl _), (Below.refl _ _).alloc (Nat.le_refl _) _⟩
theorem double_lt {R M : Nat} (h : R < 4294967296 ^ M) : R + R + 1 < 4294967296 ^ (M + 1) := by rw [Nat.pow_succ]; omega
theorem pow_u32 (t : Nat) (ht : t < 32) : (2 : Nat) ^ t < 4294967296 := Nat.pow_lt_pow_right (a := 2) (by decide) ht
theorem pow_mod_u32 (t : Nat) (ht : t < 32) : (2 : Int) ^ t % 4294967296 = ((2 ^ t : Nat) : Int) := by
  have h := pow_u32 t ht
  have e : (2 : Int) ^ t = ((2 ^ t : Nat) : Int) := by simp
  rw [e]
  generalize 2 ^ t = p at h
  omega
theorem cmp_lo {a b : Nat} (h : a < b) : cmpN a b < 0 := by unfold cmpN; rw [if_pos h]; decide
theorem cmp_hi {a b : Nat} (h : b ≤ a) : 0 ≤ cmpN a b := by unfold cmpN; rw [if_neg (by omega)]; split <;> decide
theorem quo_word (X Y k : Nat) : bits .or .u32 (dig (quoN X Y (k + 1)) (k / 32) : Nat) ((2 ^ (k % 32) : Nat) : Int) = (dig (quoN X Y (k + 1) + 2 ^ k) (k / 32) : Nat) := by
  rw [bits_or_u32_nat _ _ (dig_lt _ _) (pow_u32 _ (Nat.mod_lt _ (by decide))), quo_digit, if_pos rfl]
theorem natV_zero (w : World) : NatV w (.slice none 0 0) 0 := ⟨none, 0, 0, rfl, ⟨Nat.le_refl _, by omega, ⟨by simp, .inl rfl⟩, Reads.none_⟩⟩
set_option maxHeartbeats 8000000 in
set_option maxRecDepth 100000 in
theorem divide_at (A1 A2 : Option Addr) (n M c1 c2 X Y : Nat) (hn : n ≤ 900) (hM : M ≤ 900) (hY0 : 0 < Y) (w : World) (h1 : NatS w A1 n c1 X) (h2 : NatS w A2 M c2 Y) :
    Calls Tryd.prog 84 #[.slice A1 n c1, .slice A2 M c2] w (RetDiv w X Y) := by
  have H1 := Lib.hid h1; have H2 := Lib.hid h2; clear h1 h2
  have HY0 := Lib.hid hY0; clear hY0
  have hmk : ∀ W : World, (Instr.makeSlice 87 (.int .i64 (n : Int)) (.int .i64 (n : Int))).run Tryd.prog W = .ok (.slice (some ⟨W.heap.size, 0, none⟩) n n) (W.alloc (.cells (madeCells #[.int .u32 0] n) 128)) :=
    fun W => run_make_row' (P := Tryd.prog) 87 128 (.int .u32 0) 4 Tryd.underlying87 Tryd.infoU32 rfl .i64 .i64 n (by omega) (by omega) W
  go_enter Tryd.func84, Tryd.ntmps84
  go_wp2_with fail
  clear hmk
  have HR0 := Lib.hid (World.rowIs_made w (.int .u32 0) n 128)
  go_loopw [7, 8] (fun v i wr => ∃ k : Nat, k ≤ 32 * n ∧ i = .int .i64 ((k : Int) - 1) ∧ Hid (NatV wr v (restN X Y k)) ∧ Hid (wr.rowIs w.heap.size 128 n (dcell (dig (quoN X Y k)))) ∧ Hid (Below w.heap.size w wr)) (fun _ i _ => (intOf i + 1).toNat)
  case atStart =>
    have hh := rest_high X Y (32 * n) (by rw [Nat.pow_mul]; exact H1.out.trm.1)
    refine ⟨32 * n, Nat.le_refl _, by go_num, by rw [hh.1]; exact natV_zero _, ?_, by unfold Hid; go_grown⟩
    rw [hh.2.2]
    exact HR0.out.congr fun j _ => by unfold dcell; rw [dig_zero]; rfl
  case round =>
    obtain ⟨k, hk, rfl, HV, KR, Hb⟩ := hrel
    clear HR0
    match k, hk, HV, KR with
    | 0, hk, HV, KR =>
      have e1 : quoN X Y 0 = X / Y := by simp [quoN]
      have e2 : restN X Y 0 = X % Y := by simp [restN]
      rw [e1] at KR
      rw [e2] at HV
      clear e1 e2
      have L : Hid (X / Y < 4294967296 ^ n) := Nat.lt_of_le_of_lt (Nat.div_le_self _ _) H1.out.trm.1
      have CT : Hid (Calls Tryd.prog 101 #[.slice (some ⟨w.heap.size, 0, none⟩) n n] wr fun e w' => e = .returned (.slice (some ⟨w.heap.size, 0, none⟩) (dl (X / Y) n) n) ∧ wr = w') := trim_at _ n n _ wr.heap.size (by omega) (Nat.le_refl _) (by omega) wr (rowIs_reads KR.out)
      have HV1 : Hid (NatV wr (.slice (some ⟨w.heap.size, 0, none⟩) (dl (X / Y) n) n) (X / Y)) := ⟨_, _, _, rfl, natS_trim (rowIs_reads KR.out) L.out (Nat.le_refl _) (by omega)⟩
      clear KR
      go_wp2_with fail
      refine CT.out.mono ?_
      rintro e w2 ⟨rfl, rfl⟩
      go_wp2_with fail
      go_ret2
      exact ⟨_, _, rfl, HV1.out, HV.out, Hb.out⟩
    | m + 1, hk, HV, KR =>
      have e : (((m + 1 : Nat) : Int) - 1) = (m : Int) := by omega
      rw [e]
      clear e
      obtain ⟨Ar, nr, cr, rfl, hr⟩ := HV.out
      have HRl := Lib.hid (rest_lt X Y (m + 1) HY0.out)
      have HRM : Hid (restN X Y (m + 1) < 4294967296 ^ M) := Nat.lt_trans HRl.out H2.out.trm.1
      have hnr : nr ≤ M := trm_few hr.trm HRM.out
      have HD := Lib.hid (double_lt HRM.out)
      have hsz := Hb.out.size
      have C1 : Hid (Calls Tryd.prog 94 #[.slice Ar nr cr, .slice Ar nr cr] wr (RetNat wr (restN X Y (m + 1) + restN X Y (m + 1)))) := plus_at Ar Ar nr nr cr cr _ _ (by omega) (by omega) wr hr hr
      clear hr HV
      obtain ⟨d, hd⟩ : ∃ d, d = m / 32 := ⟨_, rfl⟩
      obtain ⟨t, ht⟩ : ∃ t, t = m % 32 := ⟨_, rfl⟩
      have hdn : d < n := by omega
      have ht32 : t < 32 := by omega
      obtain ⟨ad, ux, rfl, hBx, hxx, cx0⟩ := H1.out.rd.at_ (k := d) hdn
      rw [dcells_get hdn] at hxx
      cases hxx
      have hb1 := bitN_le X m
      have hbit : dig X d / 2 ^ t % 2 = bitN X m := by
        rw [digit_bit X d t ht32]; congr 1; omega
      have v1 : bits .and .u32 ((dig X d : Int) / 2 ^ t) 1 = (bitN X m : Int) := by
        have h := bits_and_u32_nat (dig X d / 2 ^ t) 1 (Nat.lt_of_le_of_lt (Nat.div_le_self _ _) (dig_lt X d)) (by decide)
        rw [Nat.and_one_is_mod, hbit] at h
        simpa using h
      have Hd := Lib.hid hd; have Ht := Lib.hid ht
      have m1 : (m : Int) / 32 = (d : Int) := by omega
      have m2 : (m : Int) % 32 = (t : Int) := by omega
      clear hd ht hbit
      have d0 : (0 : Int) ≤ (d : Int) := by omega
      have d1 : (d : Int) < (n : Int) := by omega
      have t0 : (0 : Int) ≤ (t : Int) := by omega
      have t1 : (t : Int) < 32 := by omega
      have lX := dig_lt X d
      go_wp2_with fail
      refine C1.out.mono ?_
      rintro e w1 ⟨v, rfl, hv, hf, hb1'⟩
      obtain ⟨Ae, ne, ce, rfl, hve⟩ := hv
      have hne : ne ≤ M + 1 := trm_few hve.trm (by have := HD.out; omega)
      have HVe := Lib.hid hve
      have Hb1' := Lib.hid hb1'
      have hs1 := hb1'.size
      have cx1 : w1.cell? (ad.add d) = some (.int .u32 (dig X d : Nat)) := (hb1'.cell (p := ad.add d) (by rw [block_of_add]; omega)).trans ((Hb.out.cell (p := ad.add d) (by rw [block_of_add]; exact hBx)).trans cx0)
      have KR1 := Lib.hid (rowIs_below KR.out hb1' KR.out.lt)
      have HB1 := Lib.hid (Hb.out.trans (hb1'.mono hsz))
      clear hve hb1' C1 KR Hb hf
      rcases (show bitN X m = 0 ∨ bitN X m = 1 by omega) with hbv | hbv
      · have HBV := Lib.hid hbv
        rw [hbv] at v1
        clear hbv hb1
        go_wp2_with fail
        have HE : Hid (restN X Y (m + 1) + restN X Y (m + 1) = 2 * restN X Y (m + 1) + bitN X m) := by unfold Hid; rw [HBV.out]; omega
        rw [HE.out] at HVe
        obtain ⟨W, rfl⟩ : ∃ W : World, W = w1 := ⟨_, rfl⟩
        have HVr := HVe; have hnr' := hne; have KRr := KR1; have HBr := HB1; clear HVe KR1 HB1 hne
        obtain ⟨Af, rfl⟩ : ∃ Af, Af = Ae := ⟨_, rfl⟩; obtain ⟨nf, rfl⟩ : ∃ nf, nf = ne := ⟨_, rfl⟩; obtain ⟨cf, rfl⟩ : ∃ cf, cf = ce := ⟨_, rfl⟩
        have CC : Hid (Calls Tryd.prog 95 #[.slice Af nf cf, .slice A2 M c2] W fun e w' => e = .returned (.int .i64 (cmpN (2 * restN X Y (m + 1) + bitN X m) Y)) ∧ Below W.heap.size W w') := natCompare_at Af A2 nf M cf c2 _ _ (by omega) (by omega) W HVr.out.rd ((H2.out.rd.below HBr.out).more HBr.out.size) HVr.out.trm H2.out.trm
        by_cases hcm : 2 * restN X Y (m + 1) + bitN X m < Y
        · have DL := Lib.hid (div_less X Y m HY0.out hcm)
          have hcv := cmp_lo hcm
          generalize cmpN (2 * restN X Y (m + 1) + bitN X m) Y = cv at *
          clear hcm
          go_wp2_with fail
          refine CC.out.mono ?_
          rintro e w4 ⟨rfl, hb4⟩
          have HV4 : Hid (NatV w4 (.slice Af nf cf) (restN X Y m)) := by unfold Hid; rw [DL.out.1]; exact ⟨Af, nf, cf, rfl, HVr.out.below hb4⟩
          have KR4 : Hid (w4.rowIs w.heap.size 128 n (dcell (dig (quoN X Y m)))) := by unfold Hid; rw [DL.out.2]; exact rowIs_below KRr.out hb4 KRr.out.lt
          have HB4 := Lib.hid (HBr.out.trans (hb4.mono HBr.out.size))
          clear hb4 KRr HVr HBr CC
          go_wp2_with fail
          go_roundw
          case rel => exact ⟨m, by omega, by go_num, HV4.out, KR4.out, HB4.out⟩
          case measure => simp [intOf]
        · have DM := Lib.hid (div_more X Y m HY0.out (by omega))
          have hcv := cmp_hi (show Y ≤ 2 * restN X Y (m + 1) + bitN X m by omega)
          have CM : Hid (∀ W', Below W.heap.size W W' → Calls Tryd.prog 96 #[.slice Af nf cf, .slice A2 M c2] W' (RetNat W' (2 * restN X Y (m + 1) + bitN X m - Y))) := fun W' hW' => minus_at Af A2 nf M cf c2 _ _ (by omega) (by omega) (by omega) W' (HVr.out.below hW') (((H2.out.below HBr.out).below hW'))
          generalize cmpN (2 * restN X Y (m + 1) + bitN X m) Y = cv at *
          clear hcm
          go_wp2_with fail
          refine CC.out.mono ?_
          rintro e w4 ⟨rfl, hb4⟩
          have CM4 := Lib.hid (CM.out w4 hb4)
          have KR4 := Lib.hid (rowIs_below KRr.out hb4 KRr.out.lt)
          have HB4 := Lib.hid (HBr.out.trans (hb4.mono HBr.out.size))
          clear hb4 KRr HVr HBr CC CM
          go_wp2_with fail
          refine CM4.out.mono ?_
          rintro e w5 ⟨v, rfl, hv, hf, hb5⟩
          have HV5 : Hid (NatV w5 v (restN X Y m)) := by unfold Hid; rw [DM.out.1]; exact hv
          have KR5 := Lib.hid (rowIs_below KR4.out hb5 KR4.out.lt)
          have HB5 := Lib.hid (HB4.out.trans (hb5.mono HB4.out.size))
          have HF5 : Hid (∀ g, v.ownBlock = some g → g ≠ w.heap.size) := fun g hg e => by have h1 := hf g hg; have h2 := KR4.out.lt; omega
          clear hv hf hb5 KR4 HB4 CM4
          have c0 : w5.cell? ⟨w.heap.size, d, none⟩ = some (.int .u32 (dig (quoN X Y (m + 1)) d : Nat)) := KR5.out.cell hdn
          have cf0 : w5.frozen? ⟨w.heap.size, d, none⟩ = false := KR5.out.frozen _
          have lq := dig_lt (quoN X Y (m + 1)) d
          go_wp2_with fail
          rw [pow_mod_u32 t ht32]
          have HW : Hid (bits .or .u32 (dig (quoN X Y (m + 1)) d : Nat) ((2 ^ t : Nat) : Int) = (dig (quoN X Y m) d : Nat)) := by unfold Hid; rw [Hd.out, Ht.out, DM.out.2]; exact quo_word X Y m
          rw [HW.out]
          go_roundw
          case rel =>
            refine ⟨m, by omega, by go_num, HV5.out.setCell (p := ⟨w.heap.size, d, none⟩) HF5.out _, ?_, HB5.out.setCell (by simp) _⟩
            refine (KR5.out.set d (.int .u32 (dig (quoN X Y m) d : Nat))).congr fun j _ => ?_
            by_cases e : j = d
            · rw [if_pos e, e]; rfl
            · rw [if_neg e]; unfold dcell; rw [DM.out.2, quo_digit, if_neg (by rw [← Hd.out]; exact e)]
          case measure => simp [intOf]
      · have HBV := Lib.hid hbv
        rw [hbv] at v1
        clear hbv hb1
        have CS := Lib.hid (small_nat 1 (by omega) w1)
        go_wp2_with fail
        refine CS.out.mono ?_
        rintro e w2 ⟨v, rfl, hv, hf, hb2⟩
        obtain ⟨Ao, no, co, rfl, hvo⟩ := hv
        have hno : no ≤ 1 := trm_few hvo.trm (by decide)
        have CP : Hid (Calls Tryd.prog 94 #[.slice Ae ne ce, .slice Ao no co] w2 (RetNat w2 (restN X Y (m + 1) + restN X Y (m + 1) + 1))) := plus_at Ae Ao ne no ce co _ _ (by omega) (by omega) w2 (HVe.out.below hb2) hvo
        have KR2 := Lib.hid (rowIs_below KR1.out hb2 KR1.out.lt)
        have HB2 := Lib.hid (HB1.out.trans (hb2.mono HB1.out.size))
        clear hvo hb2 CS KR1 HB1 cx1 hf
        go_wp2_with fail
        refine CP.out.mono ?_
        rintro e W ⟨v, rfl, hv, hf, hb3⟩
        obtain ⟨Af, nf, cf, rfl, hvf⟩ := hv
        have hnr' : nf ≤ M + 1 := trm_few hvf.trm HD.out
        have HE : Hid (restN X Y (m + 1) + restN X Y (m + 1) + 1 = 2 * restN X Y (m + 1) + bitN X m) := by unfold Hid; rw [HBV.out]; omega
        rw [HE.out] at hvf
        have HVr := Lib.hid hvf
        have KRr := Lib.hid (rowIs_below KR2.out hb3 KR2.out.lt)
        have HBr := Lib.hid (HB2.out.trans (hb3.mono HB2.out.size))
        clear hvf hb3 CP KR2 HB2 HVe hne hf
        have CC : Hid (Calls Tryd.prog 95 #[.slice Af nf cf, .slice A2 M c2] W fun e w' => e = .returned (.int .i64 (cmpN (2 * restN X Y (m + 1) + bitN X m) Y)) ∧ Below W.heap.size W w') := natCompare_at Af A2 nf M cf c2 _ _ (by omega) (by omega) W HVr.out.rd ((H2.out.rd.below HBr.out).more HBr.out.size) HVr.out.trm H2.out.trm
        by_cases hcm : 2 * restN X Y (m + 1) + bitN X m < Y
        · have DL := Lib.hid (div_less X Y m HY0.out hcm)
          have hcv := cmp_lo hcm
          generalize cmpN (2 * restN X Y (m + 1) + bitN X m) Y = cv at *
          clear hcm
          go_wp2_with fail
          refine CC.out.mono ?_
          rintro e w4 ⟨rfl, hb4⟩
          have HV4 : Hid (NatV w4 (.slice Af nf cf) (restN X Y m)) := by unfold Hid; rw [DL.out.1]; exact ⟨Af, nf, cf, rfl, HVr.out.below hb4⟩
          have KR4 : Hid (w4.rowIs w.heap.size 128 n (dcell (dig (quoN X Y m)))) := by unfold Hid; rw [DL.out.2]; exact rowIs_below KRr.out hb4 KRr.out.lt
          have HB4 := Lib.hid (HBr.out.trans (hb4.mono HBr.out.size))
          clear hb4 KRr HVr HBr CC
          go_wp2_with fail
          go_roundw
          case rel => exact ⟨m, by omega, by go_num, HV4.out, KR4.out, HB4.out⟩
          case measure => simp [intOf]
        · have DM := Lib.hid (div_more X Y m HY0.out (by omega))
          have hcv := cmp_hi (show Y ≤ 2 * restN X Y (m + 1) + bitN X m by omega)
          have CM : Hid (∀ W', Below W.heap.size W W' → Calls Tryd.prog 96 #[.slice Af nf cf, .slice A2 M c2] W' (RetNat W' (2 * restN X Y (m + 1) + bitN X m - Y))) := fun W' hW' => minus_at Af A2 nf M cf c2 _ _ (by omega) (by omega) (by omega) W' (HVr.out.below hW') (((H2.out.below HBr.out).below hW'))
          generalize cmpN (2 * restN X Y (m + 1) + bitN X m) Y = cv at *
          clear hcm
          go_wp2_with fail
          refine CC.out.mono ?_
          rintro e w4 ⟨rfl, hb4⟩
          have CM4 := Lib.hid (CM.out w4 hb4)
          have KR4 := Lib.hid (rowIs_below KRr.out hb4 KRr.out.lt)
          have HB4 := Lib.hid (HBr.out.trans (hb4.mono HBr.out.size))
          clear hb4 KRr HVr HBr CC CM
          go_wp2_with fail
          refine CM4.out.mono ?_
          rintro e w5 ⟨v, rfl, hv, hf, hb5⟩
          have HV5 : Hid (NatV w5 v (restN X Y m)) := by unfold Hid; rw [DM.out.1]; exact hv
          have KR5 := Lib.hid (rowIs_below KR4.out hb5 KR4.out.lt)
          have HB5 := Lib.hid (HB4.out.trans (hb5.mono HB4.out.size))
          have HF5 : Hid (∀ g, v.ownBlock = some g → g ≠ w.heap.size) := fun g hg e => by have h1 := hf g hg; have h2 := KR4.out.lt; omega
          clear hv hf hb5 KR4 HB4 CM4
          have c0 : w5.cell? ⟨w.heap.size, d, none⟩ = some (.int .u32 (dig (quoN X Y (m + 1)) d : Nat)) := KR5.out.cell hdn
          have cf0 : w5.frozen? ⟨w.heap.size, d, none⟩ = false := KR5.out.frozen _
          have lq := dig_lt (quoN X Y (m + 1)) d
          go_wp2_with fail
          rw [pow_mod_u32 t ht32]
          have HW : Hid (bits .or .u32 (dig (quoN X Y (m + 1)) d : Nat) ((2 ^ t : Nat) : Int) = (dig (quoN X Y m) d : Nat)) := by unfold Hid; rw [Hd.out, Ht.out, DM.out.2]; exact quo_word X Y m
          rw [HW.out]
          go_roundw
          case rel =>
            refine ⟨m, by omega, by go_num, HV5.out.setCell (p := ⟨w.heap.size, d, none⟩) HF5.out _, ?_, HB5.out.setCell (by simp) _⟩
            refine (KR5.out.set d (.int .u32 (dig (quoN X Y m) d : Nat))).congr fun j _ => ?_
            by_cases e : j = d
            · rw [if_pos e, e]; rfl
            · rw [if_neg e]; unfold dcell; rw [DM.out.2, quo_digit, if_neg (by rw [← Hd.out]; exact e)]
          case measure => simp [intOf]
end Go.Proofs.YtfgeocpooimojaaDoor
