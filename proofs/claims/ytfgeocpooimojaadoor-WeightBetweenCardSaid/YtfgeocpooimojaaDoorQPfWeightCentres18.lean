/-
  Natural numbers as slices of digits (reference of ratios): minus. Conditions: as each theorem states them. Natural numbers as slices of digits (reference of ratios): times. Conditions: as each theorem states them.
-/
import Derived.Deep.OwnRows
import Derived.Deep.QuietTactic
import Derived.BigQuiet
import Derived.Test.YtfgeocpooimojaaDoorQPfWeightCentres17
namespace Go.Proofs.YtfgeocpooimojaaDoor
open Go Go.RowKit

set_option maxHeartbeats 4000000 in
set_option maxRecDepth 100000 in
theorem minus_at (A1 A2 : Option Addr) (n m c1 c2 X Y : Nat) (hn : n ≤ 1000) (hm : m ≤ 1000) (hYX : Y ≤ X) (w : World) (h1 : NatS w A1 n c1 X) (h2 : NatS w A2 m c2 Y) :
    Calls Tryd.prog 96 #[.slice A1 n c1, .slice A2 m c2] w (RetNat w (X - Y)) := by
  have H1 := Lib.hid h1; have H2 := Lib.hid h2; clear h1 h2
  have HYX := Lib.hid hYX; clear hYX
  obtain ⟨i0, hi, hz0, hz1, hz2⟩ := info_parts Tryd.infoU32
  have Hi := Lib.hid hi; have Hz0 := Lib.hid hz0; have Hz1 := Lib.hid hz1; have Hz2 := Lib.hid hz2; clear hi hz0 hz1 hz2
  go_enter Tryd.func96, Tryd.ntmps96
  go_wp2_with fail
  go_loopw [5, 6, 7] (fun v q i wr => ∃ k : Nat, k ≤ n ∧ i = .int .i64 (k : Int) ∧ q = .int .u64 (carN (X - Y) Y k : Nat) ∧ Hid (wr.ownsRow w.heap.size 128 1 v k (dcells k (X - Y))) ∧ Hid (Below w.heap.size w wr)) (fun _ _ i _ => n - (intOf i).toNat)
  case atStart => exact ⟨0, Nat.zero_le _, rfl, by rw [carN_zero]; rfl, World.ownsRow_nil _ _ _ _, Below.refl _ _⟩
  case round =>
    obtain ⟨k, hk, rfl, rfl, Hown, Hb⟩ := hrel
    have hB := Hb.out.size
    by_cases hlt : k < n
    · have C1 : Hid (∀ W, Below w.heap.size w W → Calls Tryd.prog 103 #[.slice A1 n c1, .int .i64 (k : Nat)] W fun e w' => e = .returned (.int .u64 (dig X k : Nat)) ∧ W = w') :=
        fun W hW => digit_at A1 n c1 X k w.heap.size (by omega) (by omega) W (H1.out.rd.below hW) H1.out.trm.1
      have C2 : Hid (∀ W, Below w.heap.size w W → Calls Tryd.prog 103 #[.slice A2 m c2, .int .i64 (k : Nat)] W fun e w' => e = .returned (.int .u64 (dig Y k : Nat)) ∧ W = w') :=
        fun W hW => digit_at A2 m c2 Y k w.heap.size (by omega) (by omega) W (H2.out.rd.below hW) H2.out.trm.1
      have lx := dig_lt X k
      have ly := dig_lt Y k
      have lq := carN_le (X - Y) Y k
      have v1 : bits .and .u64 (4294967296 + (dig X k : Int) - (dig Y k : Int) - (carN (X - Y) Y k : Int)) 4294967295 = (dig (X - Y) k : Int) := by
        have := and_low (4294967296 + dig X k - dig Y k - carN (X - Y) Y k) (by omega)
        rw [← (dif_step X Y k HYX.out).1] at this
        rw [← this]
        congr 1
        omega
      have v2 : 1 - (4294967296 + (dig X k : Int) - (dig Y k : Int) - (carN (X - Y) Y k : Int)) / 4294967296 = (carN (X - Y) Y (k + 1) : Int) := by
        rw [(dif_step X Y k HYX.out).2.1]; omega
      have ls := dig_lt (X - Y) k
      have lc := carN_le (X - Y) Y (k + 1)
      have HN : Hid (∀ j u, [Value.int .u32 (dig (X - Y) k : Nat)][j]? = some u → (wr.alloc (.cells #[.int .u32 (dig (X - Y) k : Nat)] 128)).cell? ((⟨wr.heap.size, 0, none⟩ : Addr).add j) = some u) := World.news_of_block (cs := #[.int .u32 (dig (X - Y) k : Nat)]) (heap_alloc_new wr _)
      have H3 := Lib.hid (one_of (Value.int .u32 (dig (X - Y) k : Nat)) rfl)
      generalize carN (X - Y) Y k = q0 at *
      generalize HQ : carN (X - Y) Y (k + 1) = q1 at *
      have HQ' := Lib.hid HQ; clear HQ
      generalize dig X k = x0 at *
      generalize dig Y k = y0 at *
      go_wp2_with fail
      refine (C1.out _ Hb.out).mono ?_
      rintro e w' ⟨rfl, rfl⟩
      go_wp2_with fail
      refine (C2.out _ Hb.out).mono ?_
      rintro e w' ⟨rfl, rfl⟩
      go_wp2_with (at_builtin; refine wpList_append_lies _ rfl (.tmp 25) (.tmp 29) 87 rfl w.heap.size 128 i0 _ 1 4 Tryd.underlying87 Hi.out Hz0.out Hz1.out Hz2.out rfl (by omega) _ k _ rfl (Hown.out.alloc _) ⟨wr.heap.size, 0, none⟩ 1 1 _ rfl rfl HN.out H3.out (by omega) (by unfold maxLen; omega) (by omega) (by simp; omega) (wr.heap.size + 1) (by simp) ?_; intro g cap w1 hown1 hgrow hat hlt1)
      have Hown1 := Lib.hid hown1; have Hg := Lib.hid hgrow; clear hown1 hgrow hat
      go_wp2_with fail
      go_roundw
      case rel => exact ⟨k + 1, by omega, by go_num, by rw [HQ'.out], by rw [dcells_snoc]; exact Hown1.out, (Hb.out.alloc hB _).grown Hg.out (by simp; omega) (fun g hg => (Hown.out.lt g hg).1)⟩
      case measure => simp [intOf]; omega
    · obtain rfl : k = n := by omega
      have L : Hid (X - Y < 4294967296 ^ k) := Nat.lt_of_le_of_lt (Nat.sub_le _ _) H1.out.trm.1
      obtain ⟨A', c', rfl, hc1, hc2⟩ := own_form2 Hown.out
      have CT : Hid (Calls Tryd.prog 101 #[.slice A' k c'] wr (RetNat w (X - Y))) := trim_ret (by omega) (Reads.of_own Hown.out) L.out hc1 hc2 (fun g hg => (Hown.out.lt g hg).1) Hb.out
      clear Hown
      go_wp2_with fail
      refine CT.out.mono ?_
      rintro e w2 ⟨v, rfl, hv⟩
      have HV := Lib.hid hv
      clear hv
      go_wp2_with fail
      go_ret
      exact ⟨_, rfl, HV.out⟩
end Go.Proofs.YtfgeocpooimojaaDoor
namespace Go.Proofs.YtfgeocpooimojaaDoor
open Go Go.RowKit

/-- A row of digits. -/
def dcell (f : Nat → Nat) (j : Nat) : Value := .int .u32 (f j : Nat)
theorem rowIs_below {w w' : World} {b : Nat} {t : TypeId} {n : Nat} {f : Nat → Value} (h : w.rowIs b t n f) {B : Nat} (hb : Below B w w') (hB : b < B) : w'.rowIs b t n f := h.of_block (hb.block b hB)
theorem rowIs_reads {w : World} {b : Nat} {t : TypeId} {n N : Nat} (h : w.rowIs b t n (dcell (dig N))) : Reads w w.heap.size 1 (some ⟨b, 0, none⟩) n (dcells n N) := by
  refine ⟨by rw [dcells_length]; omega, fun _ => ⟨_, rfl, h.lt, fun j u hu => ?_⟩⟩
  have hj : j < n := by
    rcases Nat.lt_or_ge j n with h1 | h1
    · exact h1
    · rw [List.getElem?_eq_none (by rw [dcells_length]; omega)] at hu; cases hu
  have hadd : (⟨b, 0, none⟩ : Addr).add j = ⟨b, j, none⟩ := by unfold Addr.add; split <;> simp_all
  rw [hadd, h.cell hj, ← hu, dcells_get hj]
  rfl
theorem mul_room3 (c u x y : Nat) (hc : c < 4294967296) (hu : u < 4294967296) (hx : x < 4294967296) (hy : y < 4294967296) : x * y + u + c < 18446744073709551616 ∧ (x * y + u + c) / 4294967296 < 4294967296 := by
  have : x * y ≤ 4294967295 * 4294967295 := Nat.mul_le_mul (by omega) (by omega)
  omega
theorem u64_fits (x : Nat) (h : x < 18446744073709551616) : IntKind.u64.wrap (x : Int) = x := by rw [IntKind.wrap_u64]; omega
set_option maxHeartbeats 4000000 in
set_option maxRecDepth 100000 in
theorem times_at (A1 A2 : Option Addr) (n m c1 c2 X Y : Nat) (hn : n ≤ 1000) (hm : m ≤ 1000) (w : World) (h1 : NatS w A1 n c1 X) (h2 : NatS w A2 m c2 Y) :
    Calls Tryd.prog 97 #[.slice A1 n c1, .slice A2 m c2] w (RetNat w (X * Y)) := by
  have H1 := Lib.hid h1; have H2 := Lib.hid h2; clear h1 h2
  have hmk : ∀ W : World, (Instr.makeSlice 87 (.int .i64 ((n : Int) + (m : Int))) (.int .i64 ((n : Int) + (m : Int)))).run Tryd.prog W = .ok (.slice (some ⟨W.heap.size, 0, none⟩) (n + m) (n + m)) (W.alloc (.cells (madeCells #[.int .u32 0] (n + m)) 128)) :=
    fun W => run_make_row' (P := Tryd.prog) 87 128 (.int .u32 0) 4 Tryd.underlying87 Tryd.infoU32 rfl .i64 .i64 (n + m) (by omega) (by omega) W
  go_enter Tryd.func97, Tryd.ntmps97
  go_wp2_with fail
  clear hmk
  have HR0 := Lib.hid (World.rowIs_made w (.int .u32 0) (n + m) 128)
  go_loopw [6] (fun i wr => ∃ k : Nat, k ≤ n ∧ i = .int .i64 (k : Int) ∧ Hid (wr.rowIs w.heap.size 128 (n + m) (dcell (dig (low X k * Y)))) ∧ Hid (Below w.heap.size w wr)) (fun i _ => n - (intOf i).toNat)
  case atStart => exact ⟨0, by omega, rfl, HR0.out.congr fun j _ => by rw [low_zero, Nat.zero_mul]; unfold dcell; rw [dig_zero]; rfl, by unfold Hid; go_grown⟩
  case round =>
    obtain ⟨i, hi, rfl, KR, Hb⟩ := hrel
    clear HR0
    by_cases hin : i < n
    · obtain ⟨ad1, u1, rfl, hB1, hx1, cx0⟩ := H1.out.rd.at_ (k := i) hin
      rw [dcells_get hin] at hx1
      cases hx1
      have CX := Lib.hid cx0
      clear cx0
      go_wp2_with fail
      obtain ⟨wo, rfl⟩ : ∃ wo : World, wo = wr := ⟨_, rfl⟩
      go_loopw [7, 8] (fun c t wr => ∃ (k q : Nat), k ≤ m ∧ t = .int .i64 (k : Int) ∧ c = .int .u64 (q : Nat) ∧ q < 4294967296 ∧ Hid (q + upTo (low X i * Y) (i + k) = upTo (accV X Y i k) (i + k)) ∧ Hid (wr.rowIs w.heap.size 128 (n + m) (dcell (fun j => if j < i + k then dig (accV X Y i k) j else dig (low X i * Y) j))) ∧ Hid (Below w.heap.size w wr)) (fun _ t _ => m - (intOf t).toNat)
      case atStart =>
        refine ⟨0, 0, by omega, rfl, rfl, by omega, ?_, ?_, Hb.out⟩
        · unfold Hid; rw [accV_zero]; omega
        · exact KR.out.congr fun j _ => by simp only [dcell, accV_zero]; split <;> rfl
      case round =>
        obtain ⟨k, q, hk, rfl, rfl, hq, HV, KD, Hb'⟩ := hrel
        clear KR Hb
        by_cases hkm : k < m
        · have S := Lib.hid (mul_step X Y i k q HV.out)
          have R := Lib.hid (mul_room3 q (dig (low X i * Y) (i + k)) (dig X i) (dig Y k) hq (dig_lt _ _) (dig_lt _ _) (dig_lt _ _))
          obtain ⟨ad2, u2, rfl, hB2, hx2, cy0⟩ := H2.out.rd.at_ (k := k) hkm
          rw [dcells_get hkm] at hx2
          cases hx2
          have c0 : wr.cell? ⟨w.heap.size, i + k, none⟩ = some (.int .u32 (dig (low X i * Y) (i + k) : Nat)) := (KD.out.cell (by omega)).trans (by simp only [dcell]; rw [if_neg (by omega)])
          have c1' : wr.cell? (ad1.add i) = some (.int .u32 (dig X i : Nat)) := (Hb'.out.cell (p := ad1.add i) (by rw [block_of_add]; exact hB1)).trans CX.out
          have c2' : wr.cell? (ad2.add k) = some (.int .u32 (dig Y k : Nat)) := (Hb'.out.cell (p := ad2.add k) (by rw [block_of_add]; exact hB2)).trans cy0
          have cf : wr.frozen? ⟨w.heap.size, i + k, none⟩ = false := KD.out.frozen _
          have ld := dig_lt (low X i * Y) (i + k)
          have lx := dig_lt X i
          have ly := dig_lt Y k
          clear cy0
          generalize dig (low X i * Y) (i + k) = D0 at *
          generalize dig X i = x at *
          generalize dig Y k = y at *
          obtain ⟨s, hs⟩ : ∃ s, s = x * y + D0 + q := ⟨_, rfl⟩
          have R1 : s < 18446744073709551616 := by rw [hs]; exact R.out.1
          have u1 : IntKind.u64.wrap ((x : Int) * (y : Int)) = (x : Int) * (y : Int) := u64_fits (x * y) (by have := R.out.1; omega)
          have u2 : IntKind.u64.wrap ((x : Int) * (y : Int) + (D0 : Int)) = (x : Int) * (y : Int) + (D0 : Int) := u64_fits (x * y + D0) (by have := R.out.1; omega)
          have u3 : IntKind.u64.wrap ((x : Int) * (y : Int) + (D0 : Int) + (q : Int)) = (s : Int) := by rw [hs]; exact u64_fits (x * y + D0 + q) R.out.1
          have hs' : q + D0 + x * y = s := by omega
          rw [← hs] at R
          rw [hs'] at S
          clear hs hs'
          have i0 : (0 : Int) ≤ (i : Int) := by omega
          have i1 : (i : Int) < (n : Int) := by omega
          have k0 : (0 : Int) ≤ (k : Int) := by omega
          have k1 : (k : Int) < (m : Int) := by omega
          have j0 : (0 : Int) ≤ (i : Int) + (k : Int) := by omega
          have j1 : (i : Int) + (k : Int) < (n : Int) + (m : Int) := by omega
          have j1' : (i : Int) + (k : Int) < ((n + m : Nat) : Int) := by omega
          have j2 : ((i : Int) + (k : Int)).toNat = i + k := by omega
          have j3 : IntKind.i64.wrap ((i : Int) + (k : Int)) = (i : Int) + (k : Int) := IntWalk.i64_in _ ⟨by omega, by omega⟩
          have v1 := and_low s R1
          have R1' := Lib.hid R1
          clear R1
          go_wp2_with fail
          go_quiet (fail)
          clear u1 u2 u3 j3
          have l4 : s % 4294967296 < 4294967296 := Nat.mod_lt _ (by decide)
          go_wp2_with fail
          go_roundw
          case rel =>
            have eq2 : (s : Int) / 4294967296 = ((s / 4294967296 : Nat) : Int) := by omega
            rw [eq2]
            refine ⟨k + 1, s / 4294967296, by omega, by go_num, rfl, R.out.2, S.out.2.1, ?_, ?_⟩
            · refine (World.rowIs.set (w := wr.drewN nq) KD.out (i + k) (.int .u32 (s % 4294967296 : Nat))).congr fun j _ => ?_
              simp only [dcell]
              by_cases e : j = i + k
              · rw [if_pos e, e, if_pos (by omega), S.out.1]
              · rw [if_neg e]
                by_cases e2 : j < i + k
                · rw [if_pos e2, if_pos (by omega), S.out.2.2 j e2]
                · rw [if_neg e2, if_neg (by omega)]
            · exact (below_drewN Hb'.out nq).setCell (by simp) _
          case measure => simp [intOf]; omega
        · obtain rfl : k = m := by omega
          have E := Lib.hid (mul_roundm X Y i q k H2.out.trm.1 hq HV.out)
          have cf : wr.frozen? ⟨w.heap.size, i + k, none⟩ = false := KD.out.frozen _
          have c0 : ∃ v, wr.cell? ⟨w.heap.size, i + k, none⟩ = some v := ⟨_, KD.out.cell (by omega)⟩
          obtain ⟨v0, c0⟩ := c0
          have j0 : (0 : Int) ≤ (i : Int) + (k : Int) := by omega
          have j1 : (i : Int) + (k : Int) < (n : Int) + (k : Int) := by omega
          have j1' : (i : Int) + (k : Int) < ((n + k : Nat) : Int) := by omega
          have j2 : ((i : Int) + (k : Int)).toNat = i + k := by omega
          go_wp2_with fail
          go_roundw
          case rel =>
            refine ⟨i + 1, by omega, by go_num, ?_, Hb'.out.setCell (by simp) _⟩
            refine (KD.out.set (i + k) (.int .u32 (q : Nat))).congr fun j _ => ?_
            simp only [dcell]
            rw [← E.out j]
            by_cases e : j = i + k
            · rw [if_pos e, if_pos e]
            · rw [if_neg e, if_neg e]
          case measure => simp [intOf]; omega
    · obtain rfl : i = n := by omega
      have e : low X i = X := low_all X i H1.out.trm.1
      rw [e] at KR
      clear e
      have L : Hid (X * Y < 4294967296 ^ (i + m)) := by
        unfold Hid
        rw [Nat.pow_add]
        exact Nat.mul_lt_mul_of_lt_of_le H1.out.trm.1 (Nat.le_of_lt H2.out.trm.1) (Nat.pow_pos (by decide))
      have CT : Hid (Calls Tryd.prog 101 #[.slice (some ⟨w.heap.size, 0, none⟩) (i + m) (i + m)] wr (RetNat w (X * Y))) := trim_ret (by omega) (rowIs_reads KR.out) L.out (Nat.le_refl _) (by omega) (fun g hg => by cases hg; exact Nat.le_refl _) Hb.out
      clear KR
      go_wp2_with fail
      refine CT.out.mono ?_
      rintro e w2 ⟨v, rfl, hv⟩
      have HV := Lib.hid hv
      clear hv
      go_wp2_with fail
      go_ret
      exact ⟨_, rfl, HV.out⟩
end Go.Proofs.YtfgeocpooimojaaDoor
