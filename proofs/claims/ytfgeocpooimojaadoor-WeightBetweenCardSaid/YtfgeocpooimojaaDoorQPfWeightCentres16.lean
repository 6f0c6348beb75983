/-
  Words of 32 bits: the digit of a number's half. No program in sight. Sums, differences, products and quotients of natural numbers by their digits, in plain numbers. Conditions: as each theorem states them. Natural numbers as slices of digits: values that are numbers in a world. Conditions: as each theorem states them.
-/
import Derived.Shelf.Spec.TrailingZeros
import Derived.Test.YtfgeocpooimojaaDoorQPfWeightCentres15
namespace Go.Proofs.YtfgeocpooimojaaDoor
open Go Go.RowKit

theorem bits_or_u32_nat (a b : Nat) (ha : a < 4294967296) (hb : b < 4294967296) : bits .or .u32 (a : Int) (b : Int) = ((a ||| b : Nat) : Int) := by
  have hx : a ||| b < 2 ^ 32 := Nat.or_lt_two_pow (by omega) (by omega)
  have h1 : (BitVec.ofInt 32 (a : Int)).toNat = a := by
    rw [BitVec.ofInt_natCast, BitVec.toNat_ofNat]; exact Nat.mod_eq_of_lt (by omega)
  have h2 : (BitVec.ofInt 32 (b : Int)).toNat = b := by
    rw [BitVec.ofInt_natCast, BitVec.toNat_ofNat]; exact Nat.mod_eq_of_lt (by omega)
  show IntKind.u32.wrap ((BitVec.ofInt 32 (a : Int) ||| BitVec.ofInt 32 (b : Int)).toNat : Int) = _
  rw [BitVec.toNat_or, h1, h2, wrap_u32']
  omega
theorem half_digit (N k : Nat) : dig (N / 2) k = dig N k / 2 + dig N (k + 1) % 2 * 2147483648 := by
  unfold dig
  rw [Nat.div_div_eq_div_mul, Nat.mul_comm 2, ← Nat.div_div_eq_div_mul, Nat.pow_succ, ← Nat.div_div_eq_div_mul]
  generalize N / 4294967296 ^ k = M
  omega
theorem half_word (N k : Nat) : bits .or .u32 ((dig N k : Int) / 2) (IntKind.u32.wrap (IntKind.u32.wrap (bits .and .u64 (dig N (k + 1) : Nat) 1) * 2147483648)) = (dig (N / 2) k : Nat) := by
  have l0 := dig_lt N k
  have l1 := dig_lt N (k + 1)
  have h := bits_and_u64_nat (dig N (k + 1)) 1 (by omega) (by decide)
  rw [Nat.and_one_is_mod] at h
  rw [show (1 : Int) = ((1 : Nat) : Int) from rfl, h, wrap_u32', wrap_u32']
  have e : ((dig N (k + 1) % 2 : Nat) : Int) % 4294967296 * 2147483648 % 4294967296 = ((dig N (k + 1) % 2 * 2147483648 : Nat) : Int) := by omega
  rw [e, show (dig N k : Int) / 2 = ((dig N k / 2 : Nat) : Int) by omega, bits_or_u32_nat _ _ (by omega) (by omega), half_digit]
  congr 1
  rw [Nat.or_comm, show (2147483648 : Nat) = 2 ^ 31 from rfl, Nat.mul_comm, ← Nat.two_pow_add_eq_or_of_lt (by omega), Nat.add_comm]
end Go.Proofs.YtfgeocpooimojaaDoor
namespace Go.Proofs.YtfgeocpooimojaaDoor
open Go Go.RowKit

/-- The carry into digit k of X + Y. -/
def carN (X Y k : Nat) : Nat := (low X k + low Y k) / 4294967296 ^ k
theorem carN_zero (X Y : Nat) : carN X Y 0 = 0 := by simp [carN, low_zero]
theorem carN_le (X Y k : Nat) : carN X Y k ≤ 1 := by
  unfold carN
  have h1 := low_lt X k
  have h2 := low_lt Y k
  have : (low X k + low Y k) / 4294967296 ^ k < 2 := Nat.div_lt_of_lt_mul (by omega)
  omega
theorem carN_step (X Y k : Nat) : carN X Y (k + 1) = (dig X k + dig Y k + carN X Y k) / 4294967296 := by
  unfold carN
  rw [low_step, low_step, Nat.pow_succ, ← Nat.div_div_eq_div_mul,
    show low X k + dig X k * 4294967296 ^ k + (low Y k + dig Y k * 4294967296 ^ k) = low X k + low Y k + (dig X k + dig Y k) * 4294967296 ^ k by rw [Nat.add_mul]; omega,
    Nat.add_mul_div_right _ _ (Nat.pow_pos (by decide))]
  congr 1
  omega
theorem split_low (X k : Nat) : X = low X k + upTo X k * 4294967296 ^ k := by
  unfold low upTo
  have := Nat.mod_add_div X (4294967296 ^ k)
  rw [Nat.mul_comm] at this
  omega
theorem sum_digit (X Y k : Nat) : dig (X + Y) k = (dig X k + dig Y k + carN X Y k) % 4294967296 := by
  have h : upTo (X + Y) k = carN X Y k + (upTo X k + upTo Y k) := by
    have e : X + Y = (low X k + low Y k) + (upTo X k + upTo Y k) * 4294967296 ^ k := by
      conv => lhs; rw [split_low X k, split_low Y k]
      rw [Nat.add_mul]; omega
    rw [e, upTo_add]
    rfl
  rw [dig_of_upTo, h, dig_of_upTo X, dig_of_upTo Y]
  omega
theorem sum_top (X Y k : Nat) (hX : X < 4294967296 ^ k) (hY : Y < 4294967296 ^ k) : dig (X + Y) k = carN X Y k := by
  have := carN_le X Y k
  rw [sum_digit, dig_high hX (Nat.le_refl _), dig_high hY (Nat.le_refl _)]
  omega
theorem sum_lt (X Y k : Nat) (hX : X < 4294967296 ^ k) (hY : Y < 4294967296 ^ k) : X + Y < 4294967296 ^ (k + 1) := by
  rw [Nat.pow_succ]; omega
/-- One step of a difference. -/
theorem dif_step (X Y k : Nat) (h : Y ≤ X) :
    dig (X - Y) k = (4294967296 + dig X k - dig Y k - carN (X - Y) Y k) % 4294967296 ∧ carN (X - Y) Y (k + 1) = 1 - (4294967296 + dig X k - dig Y k - carN (X - Y) Y k) / 4294967296 ∧ dig Y k + carN (X - Y) Y k ≤ 4294967296 + dig X k := by
  have s := sum_digit (X - Y) Y k
  have c := carN_step (X - Y) Y k
  rw [Nat.sub_add_cancel h] at s
  have l1 := dig_lt (X - Y) k
  have l2 := dig_lt Y k
  have l3 := carN_le (X - Y) Y k
  generalize dig (X - Y) k = d at *
  generalize dig X k = x at *
  generalize dig Y k = y at *
  generalize carN (X - Y) Y k = b at *
  omega
theorem accV_endm (X Y i m : Nat) (hy : Y < 4294967296 ^ m) : accV X Y i m = low X (i + 1) * Y := by
  unfold accV
  rw [low_all Y m hy, low_step, Nat.add_mul, Nat.mul_right_comm]
theorem low_mul_ltm (X Y i m : Nat) (hy : Y < 4294967296 ^ m) : low X i * Y < 4294967296 ^ (i + m) := by
  rw [Nat.pow_add]
  exact Nat.mul_lt_mul_of_lt_of_le (low_lt X i) (Nat.le_of_lt hy) (Nat.pow_pos (by decide))
theorem mul_roundm (X Y i c m : Nat) (hy : Y < 4294967296 ^ m) (hc : c < 4294967296) (h : c + upTo (low X i * Y) (i + m) = upTo (accV X Y i m) (i + m)) (j : Nat) :
    (if j = i + m then c else if j < i + m then dig (accV X Y i m) j else dig (low X i * Y) j) = dig (low X (i + 1) * Y) j := by
  rw [upTo_top _ _ (low_mul_ltm X Y i m hy), Nat.add_zero] at h
  rw [accV_endm X Y i m hy] at *
  by_cases e : j = i + m
  · rw [if_pos e, e, dig_of_upTo, ← h, Nat.mod_eq_of_lt hc]
  · rw [if_neg e]
    by_cases e2 : j < i + m
    · rw [if_pos e2]
    · rw [if_neg e2]
      have t1 : low X i * Y < 4294967296 ^ j := Nat.lt_of_lt_of_le (low_mul_ltm X Y i m hy) (Nat.pow_le_pow_right (by decide) (by omega))
      have t2 : low X (i + 1) * Y < 4294967296 ^ j := Nat.lt_of_lt_of_le (low_mul_ltm X Y (i + 1) m hy) (Nat.pow_le_pow_right (by decide) (by omega))
      rw [dig_of_upTo, dig_of_upTo, upTo_top _ _ t1, upTo_top _ _ t2]
/-- A bit of a digit is a bit of the number. -/
theorem digit_bit (x d e : Nat) (he : e < 32) : dig x d / 2 ^ e % 2 = bitN x (32 * d + e) := by
  unfold dig bitN
  rw [Nat.pow_add, Nat.pow_mul, ← Nat.div_div_eq_div_mul]
  show x / (2 ^ 32) ^ d % 2 ^ 32 / 2 ^ e % 2 = _
  generalize x / (2 ^ 32) ^ d = z
  obtain ⟨f, hf⟩ : ∃ f, 32 = e + 1 + f := ⟨31 - e, by omega⟩
  rw [show (2 : Nat) ^ 32 = 2 ^ e * (2 * 2 ^ f) by rw [← Nat.pow_succ', ← Nat.pow_add]; congr 1; omega, Nat.mod_mul_right_div_self, Nat.mod_mul_right_mod]
theorem dig_or (a b j : Nat) : dig (a ||| b) j = dig a j ||| dig b j := by
  unfold dig
  rw [show (4294967296 : Nat) = 2 ^ 32 from rfl, ← Nat.pow_mul, Nat.or_div_two_pow]
  exact Nat.or_mod_two_pow ..
theorem dig_pow (m j : Nat) : dig (2 ^ m) j = if j = m / 32 then 2 ^ (m % 32) else 0 := by
  unfold dig
  rw [show (4294967296 : Nat) = 2 ^ 32 from rfl, ← Nat.pow_mul]
  have hm := Nat.div_add_mod m 32
  rcases Nat.lt_trichotomy j (m / 32) with h | h | h
  · rw [if_neg (by omega), Nat.pow_div (by omega) (by decide)]
    obtain ⟨f, hf⟩ : ∃ f, m - 32 * j = f + 32 := ⟨m - 32 * j - 32, by omega⟩
    rw [hf, Nat.pow_add, Nat.mul_mod_left]
  · rw [if_pos h, Nat.pow_div (by omega) (by decide), show m - 32 * j = m % 32 by omega, Nat.mod_eq_of_lt (Nat.pow_lt_pow_right (by decide) (Nat.mod_lt _ (by decide)))]
  · rw [if_neg (by omega), Nat.div_eq_of_lt (Nat.pow_lt_pow_right (by decide) (by omega)), Nat.zero_mod]
theorem quo_digit (x y m j : Nat) : dig (quoN x y (m + 1) + 2 ^ m) j = if j = m / 32 then dig (quoN x y (m + 1)) j ||| 2 ^ (m % 32) else dig (quoN x y (m + 1)) j := by
  rw [← quo_or, dig_or, dig_pow]
  split
  · rfl
  · rw [Nat.or_zero]
/-- The greatest common divisor: steps of the algorithm. -/
theorem gcd_both (a b t : Nat) (ha : a % 2 = 0) (hb : b % 2 = 0) : (t + t) * Nat.gcd (a / 2) (b / 2) = t * Nat.gcd a b := by
  conv => rhs; rw [show a = 2 * (a / 2) by omega, show b = 2 * (b / 2) by omega, Nat.gcd_mul_left]
  rw [← Nat.mul_assoc, Nat.mul_two]
theorem gcd_odd_half (a b : Nat) (ha : a % 2 = 0) (hb : b % 2 = 1) : Nat.gcd (a / 2) b = Nat.gcd a b := by
  have hc : Nat.Coprime 2 b := by
    unfold Nat.Coprime
    have h := Nat.gcd_dvd_left 2 b
    have h2 := Nat.gcd_dvd_right 2 b
    have hle := Nat.le_of_dvd (by decide) h
    have hpos : 0 < Nat.gcd 2 b := Nat.gcd_pos_of_pos_left _ (by decide)
    rcases (show Nat.gcd 2 b = 1 ∨ Nat.gcd 2 b = 2 by omega) with e | e
    · exact e
    · rw [e] at h2; omega
  conv => rhs; rw [show a = 2 * (a / 2) by omega]
  exact (Nat.Coprime.gcd_mul_left_cancel _ hc).symm
theorem gcd_sub (a b : Nat) (h : b ≤ a) : Nat.gcd (a - b) b = Nat.gcd a b := by
  have : Nat.gcd (a - b + b) b = Nat.gcd (a - b) b := Nat.gcd_add_self_left ..
  rw [← this, Nat.sub_add_cancel h]
theorem gcd_sub' (a b : Nat) (h : a ≤ b) : Nat.gcd a (b - a) = Nat.gcd a b := by
  rw [Nat.gcd_comm, gcd_sub b a h, Nat.gcd_comm]
end Go.Proofs.YtfgeocpooimojaaDoor
namespace Go.Proofs.YtfgeocpooimojaaDoor
open Go Go.RowKit

theorem Tryd.infoU32 : (Tryd.prog.info? 128).map (fun i => (i.zero, i.size, i.bytes)) = some (some (.int .u32 0), 1, 4) := by kernel_rfl
/-- The slice '.slice A n c' holds the digits of N, the highest of which is not 0. -/
structure NatS (w : World) (A : Option Addr) (n c N : Nat) : Prop where
  cap : n ≤ c
  top : c ≤ 9223372036854775807
  trm : Trm n N
  rd : Reads w w.heap.size 1 A n (dcells n N)
/-- The value v is the number N. -/
def NatV (w : World) (v : Value) (N : Nat) : Prop := ∃ A n c, v = .slice A n c ∧ NatS w A n c N
/-- A number is returned, and memory has only grown. -/
def RetNat (w : World) (N : Nat) (e : Ending) (w' : World) : Prop := ∃ v, e = .returned v ∧ NatV w' v N ∧ (∀ g, v.ownBlock = some g → w.heap.size ≤ g) ∧ Below w.heap.size w w'
theorem NatS.below {w w' : World} {A : Option Addr} {n c N : Nat} (h : NatS w A n c N) (hb : Below w.heap.size w w') : NatS w' A n c N :=
  ⟨h.cap, h.top, h.trm, (h.rd.below hb).more hb.size⟩
theorem NatV.below {w w' : World} {v : Value} {N : Nat} (h : NatV w v N) (hb : Below w.heap.size w w') : NatV w' v N := by
  obtain ⟨A, n, c, e, h⟩ := h
  exact ⟨A, n, c, e, h.below hb⟩
theorem trm_few {n N k : Nat} (h : Trm n N) (hN : N < 4294967296 ^ k) : n ≤ k := by
  rcases h.2 with h0 | h0
  · omega
  · rcases Nat.lt_or_ge k n with h1 | h1
    · exact absurd (dig_high hN (show k ≤ n - 1 by omega)) h0
    · exact h1
theorem trm_zero {n N : Nat} (h : Trm n N) : n = 0 ↔ N = 0 := by
  constructor
  · rintro rfl
    have := h.1
    simpa using this
  · rintro rfl
    have := trm_few h (k := 0) (by simp)
    omega
theorem dcells_take (n N m : Nat) (h : m ≤ n) : dcells m N = (dcells n N).take m := by
  apply List.ext_getElem?
  intro j
  by_cases hj : j < m
  · rw [dcells_get hj, List.getElem?_take_of_lt hj, dcells_get (by omega)]
  · rw [List.getElem?_eq_none (by rw [dcells_length]; omega), List.getElem?_eq_none (by rw [List.length_take, dcells_length]; omega)]
theorem reads_less {w : World} {B : Nat} {A : Option Addr} {n N m : Nat} (h : Reads w B 1 A n (dcells n N)) (hm : m ≤ n) : Reads w B 1 A m (dcells m N) := by
  refine ⟨by rw [dcells_length]; omega, fun h0 => ?_⟩
  obtain ⟨ad, e, hb, hc⟩ := h.2 (by omega)
  refine ⟨ad, e, hb, fun j u hu => hc j u ?_⟩
  have hj : j < m := by
    rcases Nat.lt_or_ge j m with h1 | h1
    · exact h1
    · rw [List.getElem?_eq_none (by rw [dcells_length]; omega)] at hu; cases hu
  rw [dcells_get hj] at hu
  rw [dcells_get (by omega)]
  exact hu
/-- What trim returns. -/
theorem natS_trim {w : World} {A : Option Addr} {n c N : Nat} (h : Reads w w.heap.size 1 A n (dcells n N)) (hN : N < 4294967296 ^ n) (hc : n ≤ c) (hc2 : c ≤ 9223372036854775807) : NatS w A (dl N n) c N :=
  ⟨Nat.le_trans (dl_le N n) hc, hc2, ⟨dl_lt N n hN, dl_top N n⟩, reads_less h (dl_le N n)⟩
theorem dcells_snoc (k N : Nat) : dcells (k + 1) N = dcells k N ++ [.int .u32 (dig N k : Nat)] := by
  simp [dcells, List.range_succ]
theorem own_form2 {w : World} {base n : Nat} {e : TypeId} {size : Nat} {v : Value} {xs : List Value} (h : w.ownsRow base e size v n xs) : ∃ A c, v = .slice A n c ∧ n ≤ c ∧ c ≤ 9223372036854775807 := by
  rcases h.2 with ⟨rfl, rfl⟩ | ⟨g, cap, cur, rfl, _, _, h1, h2, _⟩
  · exact ⟨none, 0, rfl, Nat.le_refl _, by omega⟩
  · exact ⟨_, _, rfl, h1, by unfold maxLen at h2; omega⟩
theorem own_below {w w' : World} {base n : Nat} {e : TypeId} {size : Nat} {v : Value} {xs : List Value} (h : w.ownsRow base e size v n xs) (hb : Below w.heap.size w w') : w'.ownsRow base e size v n xs :=
  h.kept (row := none) ⟨hb.os, hb.tape, hb.output, hb.size, fun k hk _ => hb.block k hk⟩ (by
    cases hv : v.ownBlock
    · exact .inl rfl
    · exact .inr (by simp))
/-- The call of trim at the end: what it returns is the number. -/
theorem trim_ret {w W : World} {A : Option Addr} {n c N : Nat} (hn : n ≤ 1000000) (h : Reads W W.heap.size 1 A n (dcells n N)) (hN : N < 4294967296 ^ n) (hc : n ≤ c) (hc2 : c ≤ 9223372036854775807) (hf : ∀ g, (Value.slice A n c).ownBlock = some g → w.heap.size ≤ g) (hb : Below w.heap.size w W) :
    Calls Tryd.prog 101 #[.slice A n c] W (RetNat w N) :=
  (trim_at A n c N W.heap.size hn hc hc2 W h).mono fun _ _ ⟨he, hw⟩ => hw ▸ ⟨_, he, ⟨_, _, _, rfl, natS_trim h hN hc hc2⟩, (fun g hg => hf g (by cases A <;> exact hg)), hb⟩
theorem NatV.setCell {w : World} {v : Value} {N : Nat} (h : NatV w v N) {p : Addr} (hp : ∀ g, v.ownBlock = some g → g ≠ p.block) (u : Value) : NatV (w.setCell p u) v N := by
  obtain ⟨A, n, c, rfl, h⟩ := h
  refine ⟨A, n, c, rfl, h.cap, h.top, h.trm, h.rd.1, fun h0 => ?_⟩
  obtain ⟨ad, rfl, hb, hc⟩ := h.rd.2 h0
  refine ⟨ad, rfl, by simpa using hb, fun j x hx => ?_⟩
  rw [World.cell?_setCell_other w p _ u (fun e => hp ad.block rfl ((block_of_add ad j).symm.trans (congrArg Addr.block e.symm)))]
  exact hc j x hx
end Go.Proofs.YtfgeocpooimojaaDoor
