/-
  What the functions of package num, and of its reference, return: contracts for every input in the range of an int. Conditions: as each theorem states them. Natural numbers as slices of digits (reference of ratios): digit, even. Conditions: as each theorem states them.
-/
import Derived.Test.YtfgeocpooimojaaDoorProg
import Derived.WalkSpells
import Derived.WalkLawsBesides
import Derived.Deep.QuietTactic
import Derived.BigQuiet
import Derived.Shelf.Spec.BitsCarry
import Derived.Test.YtfgeocpooimojaaDoorQPfWeightCentres00
namespace Go.Proofs.YtfgeocpooimojaaDoor
open Go Go.RowKit
def hi64 (s : Int) : Int := s / 18446744073709551616
def lo64 (s : Int) : Int := s % 18446744073709551616
theorem lo64_bd (s : Int) : 0 ≤ lo64 s ∧ lo64 s < 18446744073709551616 := by unfold lo64; omega
theorem add64_0 (x y : Int) (hx : 0 ≤ x) (hy : 0 ≤ y) (w : World) : (callFunc 89 #[.int .u64 x, .int .u64 y, .int .u64 0]).run Tryd.prog w =
    .ok (.value (.tuple #[.int .u64 (lo64 (x + y)), .int .u64 (hi64 (x + y))])) w := by
  rw [run_callFunc_extern Tryd.func89 (by kernel_rfl) (by kernel_rfl) (by kernel_rfl) (e := add64Entry) (by kernel_rfl), run_add64 x y 0 hx hy (by omega) (by omega)]
  simp [Result.andThen, lo64, hi64]
def sumE (s : Int) : Int := if -9223372036854775808 ≤ s ∧ s ≤ 9223372036854775807 then 0 else 21
def sumV (s : Int) : Int := if -9223372036854775808 ≤ s ∧ s ≤ 9223372036854775807 then s else 0
def I64 (x : Int) : Prop := -9223372036854775808 ≤ x ∧ x ≤ 9223372036854775807

theorem take_sum (l : List Int) (k : Nat) (x : Int) (h : l[k]? = some x) : (l.take (k + 1)).sum = (l.take k).sum + x := by
  rw [List.take_add_one, h]; simp
theorem int_at {l : List Int} {k : Nat} {u : Value} (h : (l.map (Value.int .i64))[k]? = some u) : ∃ x, l[k]? = some x ∧ u = .int .i64 x := by
  rw [List.getElem?_map] at h
  cases hx : l[k]? with
  | none => rw [hx] at h; cases h
  | some x => rw [hx] at h; exact ⟨x, rfl, by simpa using h.symm⟩

theorem u64_of_i64 (x : Int) : IntKind.u64.wrap x = lo64 x := by simp [IntKind.wrap_u64, lo64]
theorem i64_small (x : Int) (h : 0 ≤ x) (h2 : x ≤ 1) : IntKind.i64.wrap x = x := IntWalk.i64_in _ (by omega)
theorem carry_bd (a b : Int) (h : 0 ≤ a) (h1 : a < 18446744073709551616) (h2 : 0 ≤ b) (h3 : b < 18446744073709551616) : 0 ≤ hi64 (a + b) ∧ hi64 (a + b) ≤ 1 := by unfold hi64; omega
theorem hi64_bd (s : Int) (k : Nat) (h : -9223372036854775808 * (k : Int) ≤ s) (h2 : s ≤ 9223372036854775808 * (k : Int)) : -(k : Int) ≤ hi64 s ∧ hi64 s ≤ k := by unfold hi64; omega
theorem sum_step (s x : Int) (h1 : -9223372036854775808 ≤ x) (h2 : x ≤ 9223372036854775807) : lo64 (lo64 s + lo64 x) = lo64 (s + x) ∧ hi64 s + hi64 (lo64 s + lo64 x) - (if x < 0 then 1 else 0) = hi64 (s + x) := by
  unfold lo64 hi64
  split <;> constructor <;> omega
theorem sum_bd (l : List Int) (hl : ∀ x ∈ l, I64 x) (k : Nat) : -9223372036854775808 * (k : Int) ≤ (l.take k).sum ∧ (l.take k).sum ≤ 9223372036854775808 * (k : Int) := by
  induction k with
  | zero => simp
  | succ k ih =>
    rw [List.take_add_one]
    cases hx : l[k]? with
    | none => simp; omega
    | some x =>
      obtain ⟨h1, h2⟩ := hl x (List.mem_of_getElem? hx)
      simp; omega
/-- What the two words of a sum say of it. -/
theorem sum_done (s : Int) : (hi64 s = 0 ∧ 0 ≤ IntKind.i64.wrap (lo64 s) ∧ sumV s = IntKind.i64.wrap (lo64 s) ∧ sumE s = 0) ∨ (hi64 s = -1 ∧ IntKind.i64.wrap (lo64 s) < 0 ∧ sumV s = IntKind.i64.wrap (lo64 s) ∧ sumE s = 0) ∨
    (hi64 s = 0 ∧ IntKind.i64.wrap (lo64 s) < 0 ∧ sumV s = 0 ∧ sumE s = 21) ∨ (hi64 s = -1 ∧ 0 ≤ IntKind.i64.wrap (lo64 s) ∧ sumV s = 0 ∧ sumE s = 21) ∨ (hi64 s ≠ 0 ∧ hi64 s ≠ -1 ∧ sumV s = 0 ∧ sumE s = 21) := by
  have e1 := Int.emod_add_mul_ediv s 18446744073709551616
  have e2 := lo64_bd s
  have e3 : IntKind.i64.wrap (lo64 s) = if lo64 s < 9223372036854775808 then lo64 s else lo64 s - 18446744073709551616 := by
    simp only [IntKind.wrap_i64]; split <;> omega
  simp only [e3, sumV, sumE]
  change lo64 s + 18446744073709551616 * hi64 s = s at e1
  generalize lo64 s = r at *
  generalize hi64 s = q at *
  clear e3
  by_cases h1 : -9223372036854775808 ≤ s ∧ s ≤ 9223372036854775807
  · rw [if_pos h1, if_pos h1]; split <;> omega
  · rw [if_neg h1, if_neg h1]; split <;> omega
set_option maxHeartbeats 400000 in
theorem numSum_any (A : Option Addr) (n c B : Nat) (l : List Int) (w : World) (hr : Reads w B 1 A n (l.map (Value.int .i64))) (hn : n ≤ 1000000) (hl : ∀ x ∈ l, I64 x) :
    Calls Tryd.prog 80 #[.slice A n c] w fun e w' => e = .returned (.tuple #[.int .i64 (sumV l.sum), .int .i64 (sumE l.sum)]) ∧ w = w' := by
  have Hl := Lib.hid hl; clear hl
  have Hr := Lib.hid hr; clear hr
  go_enter Tryd.func80, Tryd.ntmps80
  go_wp2_with fail
  go_loop [5, 4, 13] (fun lo hi i => ∃ k : Nat, k ≤ n ∧ i = .int .i64 k ∧ lo = .int .u64 (lo64 (l.take k).sum) ∧ hi = .int .i64 (hi64 (l.take k).sum)) (fun _ _ i => n - (intOf i).toNat)
  case atStart => exact ⟨0, Nat.zero_le _, rfl, rfl, rfl⟩
  case round =>
    obtain ⟨k, hk, rfl, rfl, rfl⟩ := hrel
    by_cases hlt : k < n
    · obtain ⟨ad, u, rfl, _, hu, hc⟩ := Hr.out.at_ hlt
      obtain ⟨x, hx, rfl⟩ := int_at hu; clear hu
      have hxI := Hl.out x (List.mem_of_getElem? hx)
      have HS := Lib.hid (take_sum l k x hx); clear hx
      have hb1 := sum_bd l Hl.out k
      generalize (l.take k).sum = S at *
      obtain ⟨hx1, hx2⟩ := hxI
      have hlo := lo64_bd S
      have hw := u64_of_i64 x
      have hwb := lo64_bd x
      have hcar := carry_bd (lo64 S) (lo64 x) hlo.1 hlo.2 hwb.1 hwb.2
      have hhi := hi64_bd S k hb1.1 hb1.2 
      have HF := Lib.hid (sum_step S x hx1 hx2)
      obtain ⟨hhi1, hhi2⟩ := hhi
      obtain ⟨hc1, hc2⟩ := hcar
      obtain ⟨hlo1, hlo2⟩ := hlo
      obtain ⟨hwb1, hwb2⟩ := hwb
      have hwc := i64_small (hi64 (lo64 S + lo64 x)) hc1 hc2
      clear hlo2 hwb2 hb1 
      go_wp2_with (simp only [add64_0 (lo64 S) (lo64 x) hlo1 hwb1])
      all_goals
        go_round
        case rel => 
          refine ⟨k + 1, by omega, by go_num, ?_, ?_⟩
          · show _ = Value.int .u64 (lo64 (l.take (k + 1)).sum)
            rw [HS.out, ← HF.out.1]
          · show _ = Value.int .i64 (hi64 (l.take (k + 1)).sum)
            rw [HS.out, ← HF.out.2]
            first | rw [if_pos (by omega)] | (rw [if_neg (by omega)]; go_num)
        case measure => simp [intOf]; omega
    · have hkn : l.take k = l := List.take_of_length_le (by have := Hr.out.1; simp at this; omega)
      rw [hkn]
      clear hkn
      have hd := sum_done l.sum
      generalize hi64 l.sum = H at *
      generalize lo64 l.sum = L at *
      generalize hN : IntKind.i64.wrap L = N at *
      rcases hd with ⟨h1, h2, h3, h4⟩ | ⟨h1, h2, h3, h4⟩ | ⟨h1, h2, h3, h4⟩ | ⟨h1, h2, h3, h4⟩ | ⟨h1, h2, h3, h4⟩
      all_goals (have H3 := Lib.hid h3; have H4 := Lib.hid h4; clear h3 h4)
      · subst h1
        go_wp2_with fail
        go_ret2
        exact ⟨by rw [H3.out, H4.out]; rfl, rfl⟩
      · subst h1
        go_wp2_with fail
        go_ret2
        exact ⟨by rw [H3.out, H4.out]; rfl, rfl⟩
      · subst h1
        go_wp2_with fail
        go_ret2
        exact ⟨by rw [H3.out, H4.out]; rfl, rfl⟩
      · subst h1
        go_wp2_with fail
        go_ret2
        exact ⟨by rw [H3.out, H4.out]; rfl, rfl⟩
      · have g1 : (H == 0) = false := by simpa using h1
        have g2 : (H == -1) = false := by simpa using h2
        go_wp2_with fail
        go_ret2
        exact ⟨by rw [H3.out, H4.out]; rfl, rfl⟩

theorem and_mask32 (x : Int) : bits .and .i64 x 4294967295 = x % 4294967296 := by
  show IntKind.i64.wrap ((BitVec.ofInt 64 x &&& BitVec.ofInt 64 4294967295).toNat : Int) = _
  have e : (BitVec.ofInt 64 4294967295).toNat = 2 ^ 32 - 1 := by decide
  rw [BitVec.toNat_and, e, Nat.and_two_pow_sub_one_eq_mod, BitVec.toNat_ofInt, IntKind.wrap_i64]
  omega
theorem ref_done (s h o : Int) (e : h * 4294967296 + o = s) :
    ((h + o / 4294967296 < -2147483648 ∨ h + o / 4294967296 ≥ 2147483648) → sumV s = 0 ∧ sumE s = 21) ∧
    (-2147483648 ≤ h + o / 4294967296 → h + o / 4294967296 < 2147483648 → sumV s = (h + o / 4294967296) * 4294967296 + o % 4294967296 ∧ sumE s = 0) := by
  unfold sumV sumE
  refine ⟨fun h1 => ?_, fun h1 h2 => ?_⟩
  · rw [if_neg (by omega), if_neg (by omega)]; exact ⟨rfl, rfl⟩
  · rw [if_pos (by omega), if_pos (by omega)]; omega
set_option maxHeartbeats 400000 in
theorem ref01Sum_any (A : Option Addr) (n c B : Nat) (l : List Int) (w : World) (hr : Reads w B 1 A n (l.map (Value.int .i64))) (hn : n ≤ 1000000) (hl : ∀ x ∈ l, I64 x) :
    Calls Tryd.prog 30 #[.slice A n c] w fun e w' => e = .returned (.tuple #[.int .i64 (sumV l.sum), .int .i64 (sumE l.sum)]) ∧ w = w' := by
  have Hl := Lib.hid hl; clear hl
  have Hr := Lib.hid hr; clear hr
  go_enter Tryd.func30, Tryd.ntmps30
  go_wp2_with fail
  go_loop [4, 5, 6] (fun hi lo i => ∃ (k : Nat) (h o : Int), k ≤ n ∧ i = .int .i64 k ∧ hi = .int .i64 h ∧ lo = .int .i64 o ∧ -2147483648 * (k : Int) ≤ h ∧ h ≤ 2147483648 * (k : Int) ∧ 0 ≤ o ∧ o ≤ 4294967296 * (k : Int) ∧ Hid (h * 4294967296 + o = (l.take k).sum)) (fun _ _ i => n - (intOf i).toNat)
  case atStart => exact ⟨0, 0, 0, Nat.zero_le _, rfl, rfl, rfl, by omega, by omega, by omega, by omega, by simp [Hid]⟩
  case round =>
    obtain ⟨k, h, o, hk, rfl, rfl, rfl, hb1, hb2, hb3, hb4, HS⟩ := hrel
    by_cases hlt : k < n
    · obtain ⟨ad, u, rfl, _, hu, hc⟩ := Hr.out.at_ hlt
      obtain ⟨x, hx, rfl⟩ := int_at hu; clear hu
      obtain ⟨hx1, hx2⟩ := Hl.out x (List.mem_of_getElem? hx)
      have HT := Lib.hid (take_sum l k x hx); clear hx
      have hm := and_mask32 x
      go_wp2_with fail
      go_round
      case rel => exact ⟨k + 1, _, _, by omega, by go_num, rfl, rfl, by omega, by omega, by omega, by omega, by have e1 := HT.out; have e2 := HS.out; unfold Hid; rw [e1, ← e2]; omega⟩
      case measure => simp [intOf]; omega
    · have hkn : l.take k = l := List.take_of_length_le (by have := Hr.out.1; simp at this; omega)
      rw [hkn] at HS
      clear hkn
      have HD := Lib.hid (ref_done l.sum h o HS.out)
      have hm := and_mask32 o
      have hm2 : 0 ≤ o % 4294967296 := by omega
      have hm3 : o % 4294967296 ≤ 4294967295 := by omega
      by_cases g1 : h + o / 4294967296 < -2147483648
      · go_wp2_with fail
        go_ret2
        exact ⟨by rw [(HD.out.1 (by omega)).1, (HD.out.1 (by omega)).2]; rfl, rfl⟩
      by_cases g2 : h + o / 4294967296 ≥ 2147483648
      · go_wp2_with fail
        go_ret2
        exact ⟨by rw [(HD.out.1 (by omega)).1, (HD.out.1 (by omega)).2]; rfl, rfl⟩
      · go_wp2_with fail
        go_ret2
        exact ⟨by rw [(HD.out.2 (by omega) (by omega)).1, (HD.out.2 (by omega) (by omega)).2]; rfl, rfl⟩
end Go.Proofs.YtfgeocpooimojaaDoor
namespace Go.Proofs.YtfgeocpooimojaaDoor
open Go Go.RowKit

/-- The n lowest digits of N. -/
def dcells (n N : Nat) : List Value := (List.range n).map fun j => Value.int .u32 (dig N j : Nat)
theorem dcells_get {n N j : Nat} (h : j < n) : (dcells n N)[j]? = some (.int .u32 (dig N j : Nat)) := by simp [dcells, h]
theorem dcells_length (n N : Nat) : (dcells n N).length = n := by simp [dcells]
theorem dig_high {N n j : Nat} (h : N < 4294967296 ^ n) (hj : n ≤ j) : dig N j = 0 := by
  rw [dig_of_upTo, upTo_top N j (Nat.lt_of_lt_of_le h (Nat.pow_le_pow_right (by decide) hj))]
set_option maxHeartbeats 1000000 in
theorem digit_at (A : Option Addr) (n c N i B : Nat) (hn : n ≤ 1000000) (hi : i ≤ 1000000) (w : World) (hr : Reads w B 1 A n (dcells n N)) (hN : N < 4294967296 ^ n) :
    Calls Tryd.prog 103 #[.slice A n c, .int .i64 (i : Nat)] w fun e w' => e = .returned (.int .u64 (dig N i : Nat)) ∧ w = w' := by
  have hn' := hn; have hi' := hi
  clear hn hi
  by_cases h : i < n
  · obtain ⟨ad, u, rfl, _, hx, hc⟩ := hr.at_ h
    rw [dcells_get h] at hx
    obtain rfl := Option.some.inj hx
    have hl := dig_lt N i
    clear hr hN hx
    go_enter Tryd.func103, Tryd.ntmps103
    go_wp2_with fail
    go_ret
    exact ⟨rfl, rfl⟩
  · have E := Lib.hid (dig_high hN (show n ≤ i by omega))
    clear hr hN
    go_enter Tryd.func103, Tryd.ntmps103
    go_wp2_with fail
    go_ret
    exact ⟨ret_int (by rw [E.out]; rfl), rfl⟩
def evenB (N : Nat) : Bool := N % 2 == 0
theorem dig_even0 (N : Nat) : dig N 0 % 2 = N % 2 := by unfold dig; omega
set_option maxHeartbeats 1000000 in
theorem even_at (A : Option Addr) (n c N B : Nat) (hn : n ≤ 1000000) (w : World) (hr : Reads w B 1 A n (dcells n N)) (hN : N < 4294967296 ^ n) :
    Calls Tryd.prog 99 #[.slice A n c] w fun e w' => e = .returned (.bool (evenB N)) ∧ w = w' := by
  have C : Hid (Calls Tryd.prog 103 #[.slice A n c, .int .i64 0] w fun e w' => e = .returned (.int .u64 (dig N 0 : Nat)) ∧ w = w') := digit_at A n c N 0 B hn (by omega) w hr hN
  have hl := dig_lt N 0
  have E : Hid (((dig N 0 : Int) % 2 == 0) = evenB N) := by
    unfold Hid evenB
    have := dig_even0 N
    rw [Bool.eq_iff_iff, beq_iff_eq, beq_iff_eq]
    omega
  clear hr hN
  go_enter Tryd.func99, Tryd.ntmps99
  go_wp2_with fail
  refine C.out.mono ?_
  rintro e w' ⟨rfl, rfl⟩
  go_wp2_with fail
  go_ret
  exact ⟨ret_bool E.out, rfl⟩
/-- The number of digits among the n lowest. -/
def dl (N : Nat) : Nat → Nat
  | 0 => 0
  | n + 1 => if dig N n = 0 then dl N n else n + 1
theorem dl_le (N n : Nat) : dl N n ≤ n := by
  induction n with
  | zero => exact Nat.le_refl _
  | succ n ih => unfold dl; split <;> omega
theorem dl_top (N n : Nat) : dl N n = 0 ∨ dig N (dl N n - 1) ≠ 0 := by
  induction n with
  | zero => exact .inl rfl
  | succ n ih =>
    unfold dl
    split
    · exact ih
    · rename_i h0
      exact .inr (by simpa using h0)
theorem dl_lt (N n : Nat) (h : N < 4294967296 ^ n) : N < 4294967296 ^ dl N n := by
  induction n with
  | zero => exact h
  | succ n ih =>
    unfold dl
    split
    · rename_i h0
      refine ih ?_
      have h1 := upTo_step N n
      rw [upTo_top N (n + 1) h, h0] at h1
      have h2 : N / 4294967296 ^ n = 0 := h1
      rcases Nat.lt_or_ge N (4294967296 ^ n) with h3 | h3
      · exact h3
      · have := Nat.div_pos h3 (Nat.pow_pos (by decide))
        omega
    · exact h
set_option maxHeartbeats 2000000 in
theorem trim_at (A : Option Addr) (n c N B : Nat) (hn : n ≤ 1000000) (hc : n ≤ c) (hc2 : c ≤ 9223372036854775807) (w : World) (hr : Reads w B 1 A n (dcells n N)) :
    Calls Tryd.prog 101 #[.slice A n c] w fun e w' => e = .returned (.slice A (dl N n) c) ∧ w = w' := by
  have Hr := Lib.hid hr
  have hn' := hn; have hc' := hc2
  clear hr hn hc2
  go_enter Tryd.func101, Tryd.ntmps101
  go_wp2_with fail
  go_loop [3] (fun i => ∃ k : Nat, k ≤ n ∧ i = .int .i64 k ∧ Hid (dl N k = dl N n)) (fun i => (intOf i).toNat)
  case atStart => exact ⟨n, Nat.le_refl _, rfl, rfl⟩
  case round =>
    obtain ⟨k, hk, rfl, Hd⟩ := hrel
    match k, hk, Hd with
    | 0, hk, Hd =>
      go_wp2_with fail
      go_ret
      exact ⟨by rw [← Hd.out]; rfl, rfl⟩
    | m + 1, hk, Hd =>
      obtain ⟨ad, u, rfl, _, hx, hcell⟩ := Hr.out.at_ (show m < n by omega)
      rw [dcells_get (by omega)] at hx
      obtain rfl := Option.some.inj hx
      have hb : decide ((0 : Int) < ((m + 1 : Nat) : Int)) = true := by simp
      have hl := dig_lt N m
      by_cases h0 : dig N m = 0
      · have hz : ((dig N m : Int) == 0) = true := by simpa using h0
        have Hd' : Hid (dl N m = dl N n) := by unfold Hid; rw [← Hd.out]; conv => rhs; unfold dl; rw [if_pos h0]
        clear h0
        go_wp2_with fail
        go_round
        case rel => exact ⟨m, by omega, by go_num, Hd'⟩
        case measure => simp [intOf]
      · have hz : ((dig N m : Int) == 0) = false := by simpa using h0
        have Hd' : Hid (m + 1 = dl N n) := by unfold Hid; rw [← Hd.out]; conv => rhs; unfold dl; rw [if_neg h0]
        clear h0
        go_wp2_with fail
        go_ret
        exact ⟨by rw [← Hd'.out]; rfl, rfl⟩
end Go.Proofs.YtfgeocpooimojaaDoor
