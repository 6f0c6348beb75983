/-
  Natural numbers as slices of digits (reference of ratios): gcd. Conditions: as each theorem states them.
-/
import Derived.Deep.LoopGhost
import Derived.Test.YtfgeocpooimojaaDoorQPfWeightCentres17
import Derived.Test.YtfgeocpooimojaaDoorQPfWeightCentres19
namespace Go.Proofs.YtfgeocpooimojaaDoor
open Go Go.RowKit

/-- A number is returned, which may have been there before. -/
def RetNum (w : World) (N : Nat) (e : Ending) (w' : World) : Prop := ∃ v, e = .returned v ∧ NatV w' v N ∧ Below w.heap.size w w'
theorem gcd_is_odd {a b : Nat} (h : a % 2 = 1 ∨ b % 2 = 1) : Nat.gcd a b % 2 = 1 := by
  have h1 := Nat.gcd_dvd_left a b
  have h2 := Nat.gcd_dvd_right a b
  obtain ⟨c, hc⟩ := h1
  obtain ⟨d, hd⟩ := h2
  rcases Nat.mod_two_eq_zero_or_one (Nat.gcd a b) with e | e
  · exfalso
    generalize Nat.gcd a b = g at *
    have e1 : a % 2 = 0 := by rw [hc, Nat.mul_mod, e]; simp
    have e2 : b % 2 = 0 := by rw [hd, Nat.mul_mod, e]; simp
    omega
  · exact e
theorem odd_of_gcd {a b : Nat} (h : Nat.gcd a b % 2 = 1) (ha : a % 2 = 0) : b % 2 = 1 := by
  rcases Nat.mod_two_eq_zero_or_one b with e | e
  · exfalso
    have := Nat.dvd_gcd (Nat.dvd_of_mod_eq_zero ha) (Nat.dvd_of_mod_eq_zero e)
    omega
  · exact e
theorem evenB_iff (N : Nat) : evenB N = true ↔ N % 2 = 0 := by unfold evenB; simp
theorem evenB_not (N : Nat) : evenB N = false ↔ N % 2 = 1 := by unfold evenB; simp
theorem even_yes {A : Option Addr} {n c N : Nat} {w : World} (hn : n ≤ 1000) (h : NatS w A n c N) (he : N % 2 = 0) : Calls Tryd.prog 99 #[.slice A n c] w fun e w' => e = .returned (.bool true) ∧ w = w' := by
  have := even_at A n c N w.heap.size (by omega) w h.rd h.trm.1
  rw [(evenB_iff N).2 he] at this
  exact this
theorem even_no {A : Option Addr} {n c N : Nat} {w : World} (hn : n ≤ 1000) (h : NatS w A n c N) (he : N % 2 = 1) : Calls Tryd.prog 99 #[.slice A n c] w fun e w' => e = .returned (.bool false) ∧ w = w' := by
  have := even_at A n c N w.heap.size (by omega) w h.rd h.trm.1
  rw [(evenB_not N).2 he] at this
  exact this
theorem natS_few {A : Option Addr} {n c N K M : Nat} {w : World} (h : NatS w A n c N) (hN : N ≤ M) (hK : M < 4294967296 ^ K) : n ≤ K := trm_few h.trm (Nat.lt_of_le_of_lt hN hK)
theorem gcd_fact_le {t g G X : Nat} (h : t * g = G) (hG : 0 < G) (hX : G ≤ X) : t ≤ X := by
  rcases Nat.eq_zero_or_pos g with e | e
  · subst e; omega
  · exact Nat.le_trans (Nat.le_trans (Nat.le_mul_of_pos_right t e) (Nat.le_of_eq h)) hX
set_option maxHeartbeats 8000000 in
set_option maxRecDepth 100000 in
theorem refGcd_at (A1 A2 : Option Addr) (n m c1 c2 X Y K : Nat) (hK : K ≤ 400) (hn : n ≤ K) (hm : m ≤ K) (w : World) (h1 : NatS w A1 n c1 X) (h2 : NatS w A2 m c2 Y) :
    Calls Tryd.prog 83 #[.slice A1 n c1, .slice A2 m c2] w (RetNum w (Nat.gcd X Y)) := by
  by_cases hn0 : n = 0
  · have hX0 : X = 0 := (trm_zero h1.trm).1 hn0
    subst hX0
    have H2 : Hid (NatV w (.slice A2 m c2) (Nat.gcd 0 Y)) := by unfold Hid; rw [Nat.gcd_zero_left]; exact ⟨_, _, _, rfl, h2⟩
    subst hn0
    clear h1 h2
    go_enter Tryd.func83, Tryd.ntmps83
    go_wp2_with fail
    go_ret
    exact ⟨_, rfl, H2.out, Below.refl _ _⟩
  by_cases hm0 : m = 0
  · have hY0 : Y = 0 := (trm_zero h2.trm).1 hm0
    subst hY0
    have H2 : Hid (NatV w (.slice A1 n c1) (Nat.gcd X 0)) := by unfold Hid; rw [Nat.gcd_zero_right]; exact ⟨_, _, _, rfl, h1⟩
    subst hm0
    have hn1 : ((n : Int) == 0) = false := by simp; omega
    clear h1 h2
    go_enter Tryd.func83, Tryd.ntmps83
    go_wp2_with fail
    go_ret
    exact ⟨_, rfl, H2.out, Below.refl _ _⟩
  have HX0 : Hid (0 < X) := by
    unfold Hid
    rcases Nat.eq_zero_or_pos X with e | e
    · exact absurd ((trm_zero h1.trm).2 e) hn0
    · exact e
  have HY0 : Hid (0 < Y) := by
    unfold Hid
    rcases Nat.eq_zero_or_pos Y with e | e
    · exact absurd ((trm_zero h2.trm).2 e) hm0
    · exact e
  have HXK : Hid (X < 4294967296 ^ K) := Nat.lt_of_lt_of_le h1.trm.1 (Nat.pow_le_pow_right (by decide) hn)
  have HYK : Hid (Y < 4294967296 ^ K) := Nat.lt_of_lt_of_le h2.trm.1 (Nat.pow_le_pow_right (by decide) hm)
  have HGX : Hid (Nat.gcd X Y ≤ X) := Nat.gcd_le_left _ HX0.out
  have HG0 : Hid (0 < Nat.gcd X Y) := Nat.gcd_pos_of_pos_left _ HX0.out
  have hn1 : ((n : Int) == 0) = false := by simp; omega
  have hm1 : ((m : Int) == 0) = false := by simp; omega
  have CS := Lib.hid (small_nat 1 (by omega) w)
  have H1 := Lib.hid h1; have H2 := Lib.hid h2; clear h1 h2
  go_enter Tryd.func83, Tryd.ntmps83
  go_wp2_with fail
  refine CS.out.mono ?_
  rintro e w0 ⟨v0, rfl, hv0, hf0, hb0⟩
  have HV0 := Lib.hid hv0
  have Hb0 := Lib.hid hb0
  clear hv0 hf0 hb0 hn1 hm1 CS
  go_wp2_with fail
  go_loopg [0, 1, 5] X (fun gk va vb vt wr => ∃ a b t : Nat, gk = a ∧ Hid (NatV wr va a) ∧ Hid (NatV wr vb b) ∧ Hid (NatV wr vt t) ∧ Hid (t * Nat.gcd a b = Nat.gcd X Y) ∧ Hid (0 < a ∧ a ≤ X) ∧ Hid (0 < b ∧ b ≤ Y) ∧ Hid (Below w.heap.size w wr))
  case atStart => exact ⟨X, Y, 1, rfl, ⟨_, _, _, rfl, H1.out.below Hb0.out⟩, ⟨_, _, _, rfl, H2.out.below Hb0.out⟩, HV0.out, Nat.one_mul _, ⟨HX0.out, Nat.le_refl _⟩, ⟨HY0.out, Nat.le_refl _⟩, Hb0.out⟩
  case round =>
    obtain ⟨a, b, t, hgk, HA, HB, HT, HG, Ha, Hb', HW⟩ := hrel
    have Hgk := Lib.hid hgk; clear hgk
    clear H1 H2 HV0 Hb0
    obtain ⟨Aa, na, ca, rfl, ha⟩ := HA.out
    obtain ⟨Ab, nb, cb, rfl, hb⟩ := HB.out
    obtain ⟨At, nt, ct, rfl, ht⟩ := HT.out
    have hna : na ≤ K := natS_few ha Ha.out.2 HXK.out
    have hnb : nb ≤ K := natS_few hb Hb'.out.2 HYK.out
    have hnt : nt ≤ K := natS_few ht (gcd_fact_le HG.out HG0.out HGX.out) HXK.out
    have hsz := HW.out.size
    clear HA HB HT
    by_cases hev : a % 2 = 0 ∧ b % 2 = 0
    · have E1 := Lib.hid (even_yes (by omega) ha hev.1)
      have E2 := Lib.hid (even_yes (by omega) hb hev.2)
      have CA : Hid (Calls Tryd.prog 100 #[.slice Aa na ca] wr (RetNat wr (a / 2))) := half_at Aa na ca a (by omega) wr ha
      have CB : Hid (∀ W, Below wr.heap.size wr W → Calls Tryd.prog 100 #[.slice Ab nb cb] W (RetNat W (b / 2))) := fun W hW => half_at Ab nb cb b (by omega) W (hb.below hW)
      have CT : Hid (∀ W, Below wr.heap.size wr W → Calls Tryd.prog 94 #[.slice At nt ct, .slice At nt ct] W (RetNat W (t + t))) := fun W hW => plus_at At At nt nt ct ct t t (by omega) (by omega) W (ht.below hW) (ht.below hW)
      have HG' : Hid ((t + t) * Nat.gcd (a / 2) (b / 2) = Nat.gcd X Y) := (gcd_both a b t hev.1 hev.2).trans HG.out
      have Hev := Lib.hid hev
      clear hev ha hb ht
      go_wp2_with fail
      refine E1.out.mono ?_
      rintro e w' ⟨rfl, rfl⟩
      go_wp2_with fail
      refine E2.out.mono ?_
      rintro e w' ⟨rfl, rfl⟩
      go_wp2_with fail
      refine CA.out.mono ?_
      rintro e w1 ⟨va, rfl, hva, _, hb1⟩
      have CB1 := Lib.hid (CB.out w1 hb1)
      have HA1 := Lib.hid hva; have Hb1 := Lib.hid hb1
      clear hva hb1 CA CB E1 E2
      go_wp2_with fail
      refine CB1.out.mono ?_
      rintro e w2 ⟨vb, rfl, hvb, _, hb2⟩
      have Hb2 := Lib.hid (Below.later Hb1.out hb2)
      have CT2 := Lib.hid (CT.out w2 Hb2.out)
      have HA2 := Lib.hid (HA1.out.below hb2)
      have HB2 := Lib.hid hvb
      clear hvb hb2 CB1 CT HA1 Hb1
      go_wp2_with fail
      refine CT2.out.mono ?_
      rintro e w3 ⟨vt, rfl, hvt, _, hb3⟩
      have HA3 := Lib.hid (HA2.out.below hb3)
      have HB3 := Lib.hid (HB2.out.below hb3)
      have HT3 := Lib.hid hvt
      have HW3 := Lib.hid (HW.out.trans ((Below.later Hb2.out hb3).mono hsz))
      clear hvt hb3 HA2 HB2 CT2 Hb2
      go_wp2_with fail
      go_roundg (a / 2)
      case measure => have h1 := Hgk.out; have h2 := Ha.out; omega
      case rel => exact ⟨a / 2, b / 2, t + t, rfl, HA3.out, HB3.out, HT3.out, HG'.out, by have h1 := Ha.out; have h2 := Hev.out; exact ⟨by omega, by omega⟩, by have h1 := Hb'.out; have h2 := Hev.out; exact ⟨by omega, by omega⟩, HW3.out⟩
    · have HO : Hid (Nat.gcd a b % 2 = 1) := gcd_is_odd (by omega)
      by_cases ha2 : a % 2 = 0
      case' pos =>
        have E1 := Lib.hid (even_yes (by omega) ha ha2)
        have E2 := Lib.hid (even_no (by omega) hb (by omega))
        have HSA := Lib.hid ha; have HSB := Lib.hid hb; have HST := Lib.hid ht
        clear ha hb ht hev ha2
        go_wp2_with fail
        refine E1.out.mono ?_
        rintro e w' ⟨rfl, rfl⟩
        go_wp2_with fail
        refine E2.out.mono ?_
        rintro e w' ⟨rfl, rfl⟩
        clear E1 E2
      case' neg =>
        have E1 := Lib.hid (even_no (by omega) ha (by omega))
        have HSA := Lib.hid ha; have HSB := Lib.hid hb; have HST := Lib.hid ht
        clear ha hb ht hev ha2
        go_wp2_with fail
        refine E1.out.mono ?_
        rintro e w' ⟨rfl, rfl⟩
        clear E1
      all_goals
        go_wp2_with fail
        have Hgk' := Hgk
        clear Hgk Hgk'
        obtain ⟨wo, rfl⟩ : ∃ wo : World, wo = wr := ⟨_, rfl⟩
        go_loopg [0, 1] (a + b) (fun gk va vb wr => ∃ c d : Nat, gk = c + d ∧ Hid (NatV wr va c) ∧ Hid (NatV wr vb d) ∧ Hid (Nat.gcd c d = Nat.gcd a b) ∧ Hid (c ≤ X) ∧ Hid (d ≤ Y) ∧ Hid (Below wo.heap.size wo wr))
        case atStart => exact ⟨a, b, rfl, ⟨_, _, _, rfl, HSA.out⟩, ⟨_, _, _, rfl, HSB.out⟩, rfl, Ha.out.2, Hb'.out.2, Below.refl _ _⟩
        case round =>
          obtain ⟨c, d, hgk, HA, HB, HCD, Hc, Hd, HWo⟩ := hrel
          have Hgk := Lib.hid hgk; clear hgk
          clear HSA HSB
          obtain ⟨Ac, nc, cc, rfl, hc⟩ := HA.out
          obtain ⟨Ad, nd, cd, rfl, hd⟩ := HB.out
          have hnc : nc ≤ K := natS_few hc Hc.out HXK.out
          have hnd : nd ≤ K := natS_few hd Hd.out HYK.out
          have hszo := HWo.out.size
          clear HA HB
          by_cases hz : nc = 0 ∨ nd = 0
          · have hcd : c = 0 ∨ d = 0 := hz.imp (trm_zero hc.trm).1 (trm_zero hd.trm).1
            have HE : Hid (t * (c + d) = Nat.gcd X Y) := by
              unfold Hid
              rw [← HG.out, ← HCD.out]
              rcases hcd with e | e
              · subst e; rw [Nat.gcd_zero_left, Nat.zero_add]
              · subst e; rw [Nat.gcd_zero_right, Nat.add_zero]
            have CP : Hid (Calls Tryd.prog 94 #[.slice Ac nc cc, .slice Ad nd cd] wr (RetNat wr (c + d))) := plus_at Ac Ad nc nd cc cd c d (by omega) (by omega) wr hc hd
            have HS : Hid (c + d < 4294967296 ^ (K + 1)) := sum_lt c d K (Nat.lt_of_le_of_lt Hc.out HXK.out) (Nat.lt_of_le_of_lt Hd.out HYK.out)
            have HSTr := Lib.hid (HST.out.below HWo.out)
            clear hc hd hcd
            by_cases hz0 : nc = 0
            case' pos =>
              subst hz0
              clear hz
            case' neg =>
              obtain rfl : nd = 0 := by omega
              have hp : 0 < nc := by omega
              clear hz hz0
            all_goals
              go_wp2_with fail
              refine CP.out.mono ?_
              rintro e w1 ⟨v, rfl, hv, _, hb1⟩
              obtain ⟨As, ns, cs, rfl, hs⟩ := hv
              have hns : ns ≤ K + 1 := trm_few hs.trm HS.out
              have CM : Hid (Calls Tryd.prog 97 #[.slice At nt ct, .slice As ns cs] w1 (RetNat w1 (t * (c + d)))) := times_at At As nt ns ct cs _ _ (by omega) (by omega) w1 (HSTr.out.below hb1) hs
              have HW1 := Lib.hid (HW.out.trans ((Below.later HWo.out hb1).mono hsz))
              clear hs hb1 CP
              go_wp2_with fail
              refine CM.out.mono ?_
              rintro e w2 ⟨v, rfl, hv, _, hb2⟩
              have HV : Hid (NatV w2 v (Nat.gcd X Y)) := by unfold Hid; rw [← HE.out]; exact hv
              have HW2 := Lib.hid (HW1.out.trans (hb2.mono HW1.out.size))
              clear hv hb2 CM HW1
              go_wp2_with fail
              go_ret
              exact ⟨_, rfl, HV.out, HW2.out⟩
          · have hp1 : 0 < nc := by omega
            have hp2 : 0 < nd := by omega
            have HC0 : Hid (0 < c) := by
              unfold Hid
              rcases Nat.eq_zero_or_pos c with e | e
              · have := (trm_zero hc.trm).2 e; omega
              · exact e
            have HD0 : Hid (0 < d) := by
              unfold Hid
              rcases Nat.eq_zero_or_pos d with e | e
              · have := (trm_zero hd.trm).2 e; omega
              · exact e
            clear hz
            by_cases hce : c % 2 = 0
            · have E1 := Lib.hid (even_yes (by omega) hc hce)
              have CH : Hid (Calls Tryd.prog 100 #[.slice Ac nc cc] wr (RetNat wr (c / 2))) := half_at Ac nc cc c (by omega) wr hc
              have HG' : Hid (Nat.gcd (c / 2) d = Nat.gcd a b) := (gcd_odd_half c d hce (odd_of_gcd (by rw [HCD.out]; exact HO.out) hce)).trans HCD.out
              have HSD := Lib.hid hd
              clear hc hd hce
              go_wp2_with fail
              refine E1.out.mono ?_
              rintro e w' ⟨rfl, rfl⟩
              go_wp2_with fail
              refine CH.out.mono ?_
              rintro e w1 ⟨v, rfl, hv, _, hb1⟩
              have HV := Lib.hid hv
              have HV2 : Hid (NatV w1 (.slice Ad nd cd) d) := ⟨_, _, _, rfl, HSD.out.below hb1⟩
              have HW1 := Lib.hid (Below.later HWo.out hb1)
              clear hv hb1 CH HSD
              go_wp2_with fail
              go_roundg (c / 2 + d)
              case measure => have h1 := Hgk.out; have h2 := HC0.out; omega
              case rel => exact ⟨c / 2, d, rfl, HV.out, HV2.out, HG'.out, by have := Hc.out; unfold Hid; omega, Hd.out, HW1.out⟩
            · by_cases hde : d % 2 = 0
              · have E1 := Lib.hid (even_no (by omega) hc (by omega))
                have E2 := Lib.hid (even_yes (by omega) hd hde)
                have CH : Hid (Calls Tryd.prog 100 #[.slice Ad nd cd] wr (RetNat wr (d / 2))) := half_at Ad nd cd d (by omega) wr hd
                have HG' : Hid (Nat.gcd c (d / 2) = Nat.gcd a b) := by
                  unfold Hid
                  rw [← HCD.out, Nat.gcd_comm, Nat.gcd_comm c d]
                  exact gcd_odd_half d c hde (by omega)
                have HSC := Lib.hid hc
                clear hc hd hce hde
                go_wp2_with fail
                refine E1.out.mono ?_
                rintro e w' ⟨rfl, rfl⟩
                go_wp2_with fail
                refine E2.out.mono ?_
                rintro e w' ⟨rfl, rfl⟩
                go_wp2_with fail
                refine CH.out.mono ?_
                rintro e w1 ⟨v, rfl, hv, _, hb1⟩
                have HV := Lib.hid hv
                have HV2 : Hid (NatV w1 (.slice Ac nc cc) c) := ⟨_, _, _, rfl, HSC.out.below hb1⟩
                have HW1 := Lib.hid (Below.later HWo.out hb1)
                clear hv hb1 CH HSC
                go_wp2_with fail
                go_roundg (c + d / 2)
                case measure => have h1 := Hgk.out; have h2 := HD0.out; omega
                case rel => exact ⟨c, d / 2, rfl, HV2.out, HV.out, HG'.out, Hc.out, by have := Hd.out; unfold Hid; omega, HW1.out⟩
              · have E1 := Lib.hid (even_no (by omega) hc (by omega))
                have E2 := Lib.hid (even_no (by omega) hd (by omega))
                have CC : Hid (Calls Tryd.prog 95 #[.slice Ac nc cc, .slice Ad nd cd] wr fun e w' => e = .returned (.int .i64 (cmpN c d)) ∧ Below wr.heap.size wr w') := natCompare_at Ac Ad nc nd cc cd _ _ (by omega) (by omega) wr hc.rd hd.rd hc.trm hd.trm
                have HSC := Lib.hid hc; have HSD := Lib.hid hd
                clear hc hd hce hde
                by_cases hle : d ≤ c
                · have hcv := cmp_hi hle
                  have CM : Hid (∀ W, Below wr.heap.size wr W → Calls Tryd.prog 96 #[.slice Ac nc cc, .slice Ad nd cd] W (RetNat W (c - d))) := fun W hW => minus_at Ac Ad nc nd cc cd c d (by omega) (by omega) hle W (HSC.out.below hW) (HSD.out.below hW)
                  have HG' : Hid (Nat.gcd (c - d) d = Nat.gcd a b) := (gcd_sub c d hle).trans HCD.out
                  generalize cmpN c d = cv at *
                  clear hle
                  go_wp2_with fail
                  refine E1.out.mono ?_
                  rintro e w' ⟨rfl, rfl⟩
                  go_wp2_with fail
                  refine E2.out.mono ?_
                  rintro e w' ⟨rfl, rfl⟩
                  go_wp2_with fail
                  refine CC.out.mono ?_
                  rintro e w1 ⟨rfl, hb1⟩
                  have CM1 := Lib.hid (CM.out w1 hb1)
                  have Hb1 := Lib.hid hb1
                  clear hb1 CM CC
                  go_wp2_with fail
                  refine CM1.out.mono ?_
                  rintro e w2 ⟨v, rfl, hv, _, hb2⟩
                  have HV := Lib.hid hv
                  have HV2 : Hid (NatV w2 (.slice Ad nd cd) d) := ⟨_, _, _, rfl, HSD.out.below (Below.later Hb1.out hb2)⟩
                  have HW1 := Lib.hid (Below.later HWo.out (Below.later Hb1.out hb2))
                  clear hv hb2 CM1 HSC HSD Hb1
                  go_wp2_with fail
                  go_roundg (c - d + d)
                  case measure => have h1 := Hgk.out; have h2 := HD0.out; have h3 := HC0.out; omega
                  case rel => exact ⟨c - d, d, rfl, HV.out, HV2.out, HG'.out, by have := Hc.out; unfold Hid; omega, Hd.out, HW1.out⟩
                · have hcv := cmp_lo (show c < d by omega)
                  have CM : Hid (∀ W, Below wr.heap.size wr W → Calls Tryd.prog 96 #[.slice Ad nd cd, .slice Ac nc cc] W (RetNat W (d - c))) := fun W hW => minus_at Ad Ac nd nc cd cc d c (by omega) (by omega) (by omega) W (HSD.out.below hW) (HSC.out.below hW)
                  have HG' : Hid (Nat.gcd c (d - c) = Nat.gcd a b) := (gcd_sub' c d (by omega)).trans HCD.out
                  have Hle : Hid (c < d) := by unfold Hid; omega
                  generalize cmpN c d = cv at *
                  clear hle
                  go_wp2_with fail
                  refine E1.out.mono ?_
                  rintro e w' ⟨rfl, rfl⟩
                  go_wp2_with fail
                  refine E2.out.mono ?_
                  rintro e w' ⟨rfl, rfl⟩
                  go_wp2_with fail
                  refine CC.out.mono ?_
                  rintro e w1 ⟨rfl, hb1⟩
                  have CM1 := Lib.hid (CM.out w1 hb1)
                  have Hb1 := Lib.hid hb1
                  clear hb1 CM CC
                  go_wp2_with fail
                  refine CM1.out.mono ?_
                  rintro e w2 ⟨v, rfl, hv, _, hb2⟩
                  have HV := Lib.hid hv
                  have HV2 : Hid (NatV w2 (.slice Ac nc cc) c) := ⟨_, _, _, rfl, HSC.out.below (Below.later Hb1.out hb2)⟩
                  have HW1 := Lib.hid (Below.later HWo.out (Below.later Hb1.out hb2))
                  clear hv hb2 CM1 HSC HSD Hb1
                  go_wp2_with fail
                  go_roundg (c + (d - c))
                  case measure => have h1 := Hgk.out; have h2 := HD0.out; have h3 := HC0.out; omega
                  case rel => exact ⟨c, d - c, rfl, HV2.out, HV.out, HG'.out, Hc.out, by have := Hd.out; unfold Hid; omega, HW1.out⟩
end Go.Proofs.YtfgeocpooimojaaDoor
