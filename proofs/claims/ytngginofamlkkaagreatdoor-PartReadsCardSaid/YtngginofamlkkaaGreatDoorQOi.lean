/-
  cbor.Reader's methods: what must be shown. Conditions: at most 2^62 bytes. The document's Reader.argument. Conditions: at most 2^62 bytes. The document's Reader: Int, Text, List; cbor.Reader: Text, List. Conditions: at most 2^62 bytes.
-/
import Derived.Test.YtngginofamlkkaaGreatDoorQOe
noncomputable section
namespace Go.Proofs.YtngginofamlkkaaGreatDoor
open Go Go.RowKit
set_option maxRecDepth 100000
abbrev ptr0 : Value := .pointer (some ⟨0, 0, none⟩)
/-- peek again: its three outcomes. -/
def c_peek3 (args : List Value) (conts : List (List Value)) (Post : Value → List (List Value) → Prop) : Prop :=
  ∃ (s : ByteArray) (e : Int) (one two : Nat), args = [ptr0, .int .i64 one, .int .i64 two] ∧ conts = [[.string s, .int .i64 e]] ∧ s.size < 2 ^ 62 ∧
    (pk s one two = (0, 0, 0, 3) → Post (.tuple [.int .i64 0, .int .u64 0, .int .i64 0, .int .i64 3].toArray) conts) ∧ (pk s one two = (0, 0, 0, 5) → Post (.tuple [.int .i64 0, .int .u64 0, .int .i64 0, .int .i64 5].toArray) conts) ∧
    ∀ k v n : Nat, pk s one two = (k, v, n, 0) → Post (.tuple [.int .i64 k, .int .u64 v, .int .i64 n, .int .i64 0].toArray) conts
theorem ok_peek3 : IEntOk Tryz.prog ⟨217, c_peek3⟩ := by
  rintro args conts Post ⟨s, e, one, two, h1, h2, h3, h4, h5, h6⟩
  refine ok_peek args conts Post ⟨s, e, one, two, h1, h2, h3, ?_⟩
  rcases pk_cases s one two with ⟨e', he | he, hp⟩ | ⟨k, v, n, hp, _⟩
  · subst he; rw [hp]; exact h4 hp
  · subst he; rw [hp]; exact h5 hp
  · rw [hp]; exact h6 k v n hp
def tabPk : List IEnt := [⟨217, c_peek3⟩]
def callPk : VCall := inlCall Tryz.prog [216] (itabCall tabPk noCall) 2
theorem callPk_ok : VCallOk Tryz.prog callPk := inlCall_ok mixed (itabCall_ok (by
  intro e he
  simp only [tabPk, List.mem_cons, List.not_mem_nil, or_false] at he
  rcases he with rfl
  exact ok_peek3) noCall_ok) 2
theorem e_count (s : ByteArray) (e kind most : Int) (fl : Bool) (H : Code → List Fr → AS → Prop) (Post : Value → List (List Value) → Prop) : vcI Tryz.prog callPk 157 [] [[.string s, .int .i64 e]] [ptr0, .int .i64 kind, .int .i64 most, .bool fl] H Post = (True ∧ True ∧ True ∧ True ∧ True ∧ True ∧ True ∧ True ∧ True ∧ True ∧ True ∧ True ∧ pIf (decide (e = 0)) (True ∧ True ∧ True ∧ True ∧ True ∧ True ∧ true = true ∧ ∃ (s_1 : ByteArray), ∃ (e_1 : Int), ∃ (one : Nat), ∃ (two : Nat), eqL [Value.pointer (some (Addr.mk 0 0 none)), Value.int IntKind.i64 kind, Value.int IntKind.i64 kind] [Value.pointer (some (Addr.mk 0 0 none)), Value.int IntKind.i64 (↑one : Int), Value.int IntKind.i64 (↑two : Int)] ∧ [[Value.string s, Value.int IntKind.i64 e]] = [[Value.string s_1, Value.int IntKind.i64 e_1]] ∧ ByteArray.size s_1 < 4611686018427387904 ∧ (pk s_1 one two = (0, 0, 0, 3) → 1 = 1 ∧ True ∧ True ∧ True ∧ True ∧ True ∧ True ∧ True ∧ True ∧ True ∧ True ∧ True ∧ True ∧ True ∧ True ∧ True ∧ True ∧ True ∧ 2 ≤ 2 ∧ True ∧ True ∧ True ∧ True ∧ true = true ∧ Post (Value.int IntKind.i64 0) [[Value.string s, Value.int IntKind.i64 3]]) ∧ (pk s_1 one two = (0, 0, 0, 5) → 1 = 1 ∧ True ∧ True ∧ True ∧ True ∧ True ∧ True ∧ True ∧ True ∧ True ∧ True ∧ True ∧ True ∧ True ∧ True ∧ True ∧ True ∧ True ∧ 2 ≤ 2 ∧ True ∧ True ∧ True ∧ True ∧ true = true ∧ Post (Value.int IntKind.i64 0) [[Value.string s, Value.int IntKind.i64 5]]) ∧ ∀ (k v n : Nat), pk s_1 one two = (k, v, n, 0) → 1 = 1 ∧ True ∧ True ∧ True ∧ True ∧ True ∧ True ∧ True ∧ True ∧ True ∧ True ∧ True ∧ True ∧ True ∧ True ∧ pIf (decide (most < 0)) (True ∧ True ∧ True ∧ True ∧ True ∧ True ∧ True ∧ True ∧ True ∧ 2 ≤ 2 ∧ True ∧ True ∧ True ∧ True ∧ true = true ∧ Post (Value.int IntKind.i64 0) [[Value.string s, Value.int IntKind.i64 4]]) (True ∧ True ∧ True ∧ True ∧ True ∧ pIf (decide ((↑v : Int) > IntKind.wrap IntKind.u64 most)) (True ∧ True ∧ True ∧ True ∧ True ∧ True ∧ True ∧ True ∧ 2 ≤ 2 ∧ True ∧ True ∧ True ∧ True ∧ true = true ∧ Post (Value.int IntKind.i64 0) [[Value.string s, Value.int IntKind.i64 4]]) (True ∧ True ∧ True ∧ pIf fl (True ∧ True ∧ True ∧ True ∧ True ∧ True ∧ True ∧ True ∧ True ∧ True ∧ True ∧ True ∧ pIf (decide ((↑v : Int) > IntKind.wrap IntKind.u64 (IntKind.wrap IntKind.i64 ((↑(ByteArray.size s) : Int) - (↑n : Int))))) (True ∧ True ∧ True ∧ True ∧ True ∧ True ∧ True ∧ True ∧ 2 ≤ 2 ∧ True ∧ True ∧ True ∧ True ∧ true = true ∧ Post (Value.int IntKind.i64 0) [[Value.string s, Value.int IntKind.i64 3]]) (True ∧ True ∧ True ∧ True ∧ True ∧ True ∧ True ∧ 2 ≤ 2 ∧ True ∧ True ∧ True ∧ True ∧ True ∧ True ∧ True ∧ True ∧ True ∧ (True ∧ 0 ≤ (↑n : Int) ∧ Int.toNat (↑n : Int) ≤ ByteArray.size s ∧ ByteArray.size s ≤ ByteArray.size s) ∧ True ∧ True ∧ True ∧ 1 ≤ 2 ∧ True ∧ True ∧ True ∧ True ∧ true = true ∧ Post (Value.int IntKind.i64 (IntKind.wrap IntKind.i64 (↑v : Int))) [[Value.string (ByteArray.extract s (Int.toNat (↑n : Int)) (ByteArray.size s)), Value.int IntKind.i64 0]])) (True ∧ True ∧ True ∧ True ∧ True ∧ True ∧ True ∧ True ∧ 2 ≤ 2 ∧ True ∧ True ∧ True ∧ True ∧ True ∧ True ∧ True ∧ True ∧ True ∧ (True ∧ 0 ≤ (↑n : Int) ∧ Int.toNat (↑n : Int) ≤ ByteArray.size s ∧ ByteArray.size s ≤ ByteArray.size s) ∧ True ∧ True ∧ True ∧ 1 ≤ 2 ∧ True ∧ True ∧ True ∧ True ∧ true = true ∧ Post (Value.int IntKind.i64 (IntKind.wrap IntKind.i64 (↑v : Int))) [[Value.string (ByteArray.extract s (Int.toNat (↑n : Int)) (ByteArray.size s)), Value.int IntKind.i64 0]])))) (True ∧ True ∧ True ∧ True ∧ True ∧ true = true ∧ Post (Value.int IntKind.i64 0) [[Value.string s, Value.int IntKind.i64 e]])) := by kernel_rfl
theorem e_RInt (s : ByteArray) (e low high : Int) (H : Code → List Fr → AS → Prop) (Post : Value → List (List Value) → Prop) : vcI Tryz.prog callPk 158 [] [[.string s, .int .i64 e]] [ptr0, .int .i64 low, .int .i64 high] H Post = (True ∧ True ∧ True ∧ True ∧ True ∧ True ∧ True ∧ True ∧ True ∧ True ∧ True ∧ True ∧ pIf (decide (e = 0)) (True ∧ True ∧ True ∧ True ∧ true = true ∧ ∃ (s_1 : ByteArray), ∃ (e_1 : Int), ∃ (one : Nat), ∃ (two : Nat), eqL [Value.pointer (some (Addr.mk 0 0 none)), Value.int IntKind.i64 0, Value.int IntKind.i64 1] [Value.pointer (some (Addr.mk 0 0 none)), Value.int IntKind.i64 (↑one : Int), Value.int IntKind.i64 (↑two : Int)] ∧ [[Value.string s, Value.int IntKind.i64 e]] = [[Value.string s_1, Value.int IntKind.i64 e_1]] ∧ ByteArray.size s_1 < 4611686018427387904 ∧ (pk s_1 one two = (0, 0, 0, 3) → 1 = 1 ∧ True ∧ True ∧ True ∧ True ∧ True ∧ True ∧ True ∧ True ∧ True ∧ True ∧ True ∧ True ∧ True ∧ True ∧ True ∧ True ∧ True ∧ True ∧ True ∧ True ∧ True ∧ True ∧ True ∧ True ∧ True ∧ True ∧ True ∧ 2 ≤ 2 ∧ True ∧ True ∧ True ∧ True ∧ true = true ∧ Post (Value.int IntKind.i64 0) [[Value.string s, Value.int IntKind.i64 3]]) ∧ (pk s_1 one two = (0, 0, 0, 5) → 1 = 1 ∧ True ∧ True ∧ True ∧ True ∧ True ∧ True ∧ True ∧ True ∧ True ∧ True ∧ True ∧ True ∧ True ∧ True ∧ True ∧ True ∧ True ∧ True ∧ True ∧ True ∧ True ∧ True ∧ True ∧ True ∧ True ∧ True ∧ True ∧ 2 ≤ 2 ∧ True ∧ True ∧ True ∧ True ∧ true = true ∧ Post (Value.int IntKind.i64 0) [[Value.string s, Value.int IntKind.i64 5]]) ∧ ∀ (k v n : Nat), pk s_1 one two = (k, v, n, 0) → 1 = 1 ∧ True ∧ True ∧ True ∧ True ∧ True ∧ True ∧ True ∧ True ∧ True ∧ True ∧ True ∧ True ∧ True ∧ toI (Value.int IntKind.i64 0) ≤ 63 ∧ True ∧ pIf (!decide (Int.fdiv (↑v : Int) (2 ^ 63) = 0)) (True ∧ True ∧ True ∧ True ∧ True ∧ True ∧ True ∧ pIf (decide ((↑k : Int) = 1)) (True ∧ True ∧ True ∧ True ∧ True ∧ True ∧ True ∧ True ∧ True ∧ True ∧ True ∧ True ∧ 2 ≤ 2 ∧ True ∧ True ∧ True ∧ True ∧ true = true ∧ Post (Value.int IntKind.i64 0) [[Value.string s, Value.int IntKind.i64 5]]) (True ∧ True ∧ True ∧ True ∧ True ∧ True ∧ True ∧ True ∧ True ∧ 2 ≤ 2 ∧ True ∧ True ∧ True ∧ True ∧ true = true ∧ Post (Value.int IntKind.i64 0) [[Value.string s, Value.int IntKind.i64 5]])) (True ∧ True ∧ True ∧ True ∧ True ∧ True ∧ pIf (decide ((↑k : Int) = 1)) (True ∧ True ∧ True ∧ True ∧ True ∧ True ∧ True ∧ True ∧ True ∧ pIf (decide (IntKind.wrap IntKind.i64 (↑(BitVec.toNat (BitVec.ofInt 64 (if IntKind.signed IntKind.i64 = true then -1 else IntKind.max IntKind.i64) ^^^ BitVec.ofInt 64 (IntKind.wrap IntKind.i64 (↑v : Int)))) : Int) < low)) (True ∧ True ∧ True ∧ True ∧ True ∧ True ∧ True ∧ True ∧ True ∧ 2 ≤ 2 ∧ True ∧ True ∧ True ∧ True ∧ true = true ∧ Post (Value.int IntKind.i64 0) [[Value.string s, Value.int IntKind.i64 9]]) (True ∧ True ∧ True ∧ True ∧ pIf (decide (IntKind.wrap IntKind.i64 (↑(BitVec.toNat (BitVec.ofInt 64 (if IntKind.signed IntKind.i64 = true then -1 else IntKind.max IntKind.i64) ^^^ BitVec.ofInt 64 (IntKind.wrap IntKind.i64 (↑v : Int)))) : Int) > high)) (True ∧ True ∧ True ∧ True ∧ True ∧ True ∧ True ∧ True ∧ 2 ≤ 2 ∧ True ∧ True ∧ True ∧ True ∧ true = true ∧ Post (Value.int IntKind.i64 0) [[Value.string s, Value.int IntKind.i64 9]]) (True ∧ True ∧ True ∧ True ∧ True ∧ True ∧ True ∧ 2 ≤ 2 ∧ True ∧ True ∧ True ∧ True ∧ True ∧ True ∧ True ∧ True ∧ True ∧ (True ∧ 0 ≤ (↑n : Int) ∧ Int.toNat (↑n : Int) ≤ ByteArray.size s ∧ ByteArray.size s ≤ ByteArray.size s) ∧ True ∧ True ∧ True ∧ 1 ≤ 2 ∧ True ∧ True ∧ True ∧ true = true ∧ Post (Value.int IntKind.i64 (IntKind.wrap IntKind.i64 (↑(BitVec.toNat (BitVec.ofInt 64 (if IntKind.signed IntKind.i64 = true then -1 else IntKind.max IntKind.i64) ^^^ BitVec.ofInt 64 (IntKind.wrap IntKind.i64 (↑v : Int)))) : Int))) [[Value.string (ByteArray.extract s (Int.toNat (↑n : Int)) (ByteArray.size s)), Value.int IntKind.i64 0]]))) (True ∧ True ∧ True ∧ True ∧ True ∧ True ∧ pIf (decide (IntKind.wrap IntKind.i64 (↑v : Int) < low)) (True ∧ True ∧ True ∧ True ∧ True ∧ True ∧ True ∧ True ∧ True ∧ 2 ≤ 2 ∧ True ∧ True ∧ True ∧ True ∧ true = true ∧ Post (Value.int IntKind.i64 0) [[Value.string s, Value.int IntKind.i64 9]]) (True ∧ True ∧ True ∧ True ∧ pIf (decide (IntKind.wrap IntKind.i64 (↑v : Int) > high)) (True ∧ True ∧ True ∧ True ∧ True ∧ True ∧ True ∧ True ∧ 2 ≤ 2 ∧ True ∧ True ∧ True ∧ True ∧ true = true ∧ Post (Value.int IntKind.i64 0) [[Value.string s, Value.int IntKind.i64 9]]) (True ∧ True ∧ True ∧ True ∧ True ∧ True ∧ True ∧ 2 ≤ 2 ∧ True ∧ True ∧ True ∧ True ∧ True ∧ True ∧ True ∧ True ∧ True ∧ (True ∧ 0 ≤ (↑n : Int) ∧ Int.toNat (↑n : Int) ≤ ByteArray.size s ∧ ByteArray.size s ≤ ByteArray.size s) ∧ True ∧ True ∧ True ∧ 1 ≤ 2 ∧ True ∧ True ∧ True ∧ true = true ∧ Post (Value.int IntKind.i64 (IntKind.wrap IntKind.i64 (↑v : Int))) [[Value.string (ByteArray.extract s (Int.toNat (↑n : Int)) (ByteArray.size s)), Value.int IntKind.i64 0]]))))) (True ∧ True ∧ True ∧ True ∧ True ∧ true = true ∧ Post (Value.int IntKind.i64 0) [[Value.string s, Value.int IntKind.i64 e]])) := by kernel_rfl
theorem wrap64_hi {n : Int} (h1 : 9223372036854775808 ≤ n) (h2 : n < 18446744073709551616) : IntKind.i64.wrap n = n - 18446744073709551616 := by
  have e : IntKind.i64.wrap n = if (n % 18446744073709551616 : Int) ≥ 9223372036854775808 then n % 18446744073709551616 - 18446744073709551616 else n % 18446744073709551616 := by
    unfold IntKind.wrap
    simp [IntKind.signed, IntKind.bits]
  rw [e]
  split <;> omega
theorem notNat {v : Nat} (h : v < 9223372036854775808) : IntKind.i64.wrap (((BitVec.ofInt 64 (if IntKind.signed IntKind.i64 = true then -1 else IntKind.max IntKind.i64) ^^^ BitVec.ofInt 64 ((v : Nat) : Int)).toNat : Nat) : Int) = -1 - (v : Int) := by
  have e0 : (BitVec.ofInt 64 (if IntKind.signed IntKind.i64 = true then -1 else IntKind.max IntKind.i64)) = BitVec.allOnes 64 := by decide
  rw [e0, BitVec.allOnes_xor]
  have e1 : (~~~ BitVec.ofInt 64 ((v : Nat) : Int)).toNat = 18446744073709551615 - v := by
    rw [BitVec.toNat_not, BitVec.toNat_ofInt]
    omega
  rw [e1, wrap64_hi (by omega) (by omega)]
  omega
/-- A reader's block. -/
def stC (st : St) : List Value := [.string st.1, .int .i64 st.2]
def c_RInt (args : List Value) (conts : List (List Value)) (Post : Value → List (List Value) → Prop) : Prop :=
  ∃ (s : ByteArray) (e : Nat) (low high : Int), args = [ptr0, .int .i64 low, .int .i64 high] ∧ conts = [[.string s, .int .i64 e]] ∧ s.size < 2 ^ 62 ∧ Post (.int .i64 (rdInt low high (s, e)).1) [stC (rdInt low high (s, e)).2]
def c_count (args : List Value) (conts : List (List Value)) (Post : Value → List (List Value) → Prop) : Prop :=
  ∃ (s : ByteArray) (e kind most : Nat) (fl : Bool), args = [ptr0, .int .i64 kind, .int .i64 most, .bool fl] ∧ conts = [[.string s, .int .i64 e]] ∧ s.size < 2 ^ 62 ∧ most < 2 ^ 62 ∧ Post (.int .i64 (rdHead kind most fl (s, e)).1) [stC (rdHead kind most fl (s, e)).2]
theorem fdiv63 {v : Nat} : (Int.fdiv (v : Int) (2 ^ 63) = 0) ↔ v < 9223372036854775808 := by
  rw [fdivNat]
  have : (2 : Nat) ^ 63 = 9223372036854775808 := by decide
  omega
theorem pk_size {s : ByteArray} {one two k v n : Nat} (h : pk s one two = (k, v, n, 0)) : n ≤ s.size ∧ v < 18446744073709551616 := by
  rcases pk_cases s one two with ⟨e, he | he, hp⟩ | ⟨k', v', n', hp, h1, h2, h3, h4, h5, h6⟩
  · rw [hp] at h; subst he; cases h
  · rw [hp] at h; subst he; cases h
  · rw [hp] at h; cases h; exact ⟨h5, h2⟩
theorem ok_RInt : IEntOk Tryz.prog ⟨158, c_RInt⟩ := by
  rintro args conts Post ⟨s, e, low, high, rfl, rfl, hs, h⟩
  refine spec_I (vc := callPk) callPk_ok mixed (by kernel_rfl) (by kernel_rfl) _ (e_RInt s e low high _ _) ?_
  simp only [true_and, and_true, pIf_iff, decide_eq_true_eq, decide_eq_false_iff_not, Bool.not_eq_true', Bool.not_eq_false', Int.toNat_natCast]
  refine ⟨fun h0 => ⟨s, e, 0, 1, rfl, rfl, hs, fun hp => ?_, fun hp => ?_, fun k v n hp => ⟨by decide, fun h1 => ?_, fun h1 => ?_⟩⟩, fun h0 => ?_⟩
  · unfold rdInt at h
    rw [if_neg (show ¬ e ≠ 0 by omega)] at h
    simp only [hp] at h
    exact ⟨Nat.le_refl _, h⟩
  · unfold rdInt at h
    rw [if_neg (show ¬ e ≠ 0 by omega)] at h
    simp only [hp] at h
    exact ⟨Nat.le_refl _, h⟩
  · rw [fdiv63] at h1
    unfold rdInt at h
    rw [if_neg (show ¬ e ≠ 0 by omega)] at h
    simp only [hp] at h
    rw [if_neg (by decide), if_pos (by omega)] at h
    exact ⟨fun _ => ⟨Nat.le_refl _, h⟩, fun _ => ⟨Nat.le_refl _, h⟩⟩
  · rw [fdiv63] at h1
    obtain ⟨hn, hv⟩ := pk_size hp
    unfold rdInt at h
    rw [if_neg (show ¬ e ≠ 0 by omega)] at h
    simp only [hp] at h
    rw [if_neg (by decide), if_neg (by omega)] at h
    rw [wrap64 (n := (v : Int)) (by omega) (by omega), notNat h1]
    refine ⟨fun hk => ?_, fun hk => ?_⟩
    · rw [if_pos (show k = 1 by omega)] at h
      refine ⟨fun h2 => ?_, fun h2 => ⟨fun h3 => ?_, fun h3 => ?_⟩⟩
      · rw [if_pos (.inl h2)] at h; exact ⟨Nat.le_refl _, h⟩
      · rw [if_pos (.inr h3)] at h; exact ⟨Nat.le_refl _, h⟩
      · rw [if_neg (by omega)] at h; exact ⟨Nat.le_refl _, ⟨by omega, hn, Nat.le_refl _⟩, by decide, h⟩
    · rw [if_neg (show ¬ k = 1 by omega)] at h
      refine ⟨fun h2 => ?_, fun h2 => ⟨fun h3 => ?_, fun h3 => ?_⟩⟩
      · rw [if_pos (.inl h2)] at h; exact ⟨Nat.le_refl _, h⟩
      · rw [if_pos (.inr h3)] at h; exact ⟨Nat.le_refl _, h⟩
      · rw [if_neg (by omega)] at h; exact ⟨Nat.le_refl _, ⟨by omega, hn, Nat.le_refl _⟩, by decide, h⟩
  · unfold rdInt at h
    rw [if_pos (show e ≠ 0 by omega)] at h
    exact h
theorem ok_count : IEntOk Tryz.prog ⟨157, c_count⟩ := by
  rintro args conts Post ⟨s, e, kind, most, fl, rfl, rfl, hs, hm, h⟩
  refine spec_I (vc := callPk) callPk_ok mixed (by kernel_rfl) (by kernel_rfl) _ (e_count s e kind most fl _ _) ?_
  simp only [true_and, and_true, pIf_iff, decide_eq_true_eq, decide_eq_false_iff_not, Bool.not_eq_true', Bool.not_eq_false', Int.toNat_natCast]
  refine ⟨fun h0 => ⟨s, e, kind, kind, rfl, rfl, hs, fun hp => ?_, fun hp => ?_, fun k v n hp => ?_⟩, fun h0 => ?_⟩
  · unfold rdHead at h
    rw [if_neg (show ¬ e ≠ 0 by omega)] at h
    simp only [hp] at h
    exact ⟨Nat.le_refl _, h⟩
  · unfold rdHead at h
    rw [if_neg (show ¬ e ≠ 0 by omega)] at h
    simp only [hp] at h
    exact ⟨Nat.le_refl _, h⟩
  · obtain ⟨hn, hv⟩ := pk_size hp
    unfold rdHead at h
    rw [if_neg (show ¬ e ≠ 0 by omega)] at h
    simp only [hp] at h
    rw [if_neg (by decide)] at h
    rw [wrapU64 (n := most) (by omega), show ((s.size : Nat) : Int) - (n : Int) = ((s.size - n : Nat) : Int) by omega, wrapNat (n := s.size - n) (by omega), wrapU64 (n := s.size - n) (by omega)]
    refine ⟨fun h1 => by omega, fun h1 => ⟨fun h2 => ?_, fun h2 => ⟨fun h3 => ⟨fun h4 => ?_, fun h4 => ?_⟩, fun h3 => ?_⟩⟩⟩
    · rw [if_pos (by omega)] at h; exact ⟨Nat.le_refl _, h⟩
    · rw [if_neg (by omega), if_pos ⟨h3, by omega⟩] at h; exact ⟨Nat.le_refl _, h⟩
    · rw [if_neg (by omega), if_neg (fun hh => by omega)] at h
      rw [wrapNat (n := v) (by omega)]
      exact ⟨Nat.le_refl _, ⟨by omega, hn, Nat.le_refl _⟩, by decide, h⟩
    · rw [if_neg (by omega), if_neg (fun hh => by rw [h3] at hh; cases hh.1)] at h
      rw [wrapNat (n := v) (by omega)]
      exact ⟨Nat.le_refl _, ⟨by omega, hn, Nat.le_refl _⟩, by decide, h⟩
  · unfold rdHead at h
    rw [if_pos (show e ≠ 0 by omega)] at h
    exact h
end Go.Proofs.YtngginofamlkkaaGreatDoor
noncomputable section
namespace Go.Proofs.YtngginofamlkkaaGreatDoor
open Go Go.RowKit
set_option maxRecDepth 100000
def callRh : VCall := tabCall tabR5h noCall
theorem e_argm (s : ByteArray) (a e one two : Int) (H : Code → List Fr → AS → Prop) (Post : Value → List (List Value) → Prop) : vcI Tryz.prog callRh 159 [(11, [0, 11, 12, 13, 14]), (18, [0, 11, 13, 15, 16])] [[.string s, .int .i64 a, .int .i64 e]] [ptr0, .int .i64 one, .int .i64 two] H Post = (True ∧ True ∧ True ∧ True ∧ True ∧ True ∧ True ∧ True ∧ True ∧ True ∧ True ∧ True ∧ True ∧ True ∧ pIf (decide (a ≥ (↑(ByteArray.size s) : Int))) (True ∧ True ∧ True ∧ True ∧ (True ∧ True ∧ True ∧ True ∧ True) ∧ true = true ∧ Post (Value.tuple #[Value.int IntKind.i64 0, Value.int IntKind.u64 0, Value.int IntKind.i64 0, Value.int IntKind.i64 3]) [[Value.string s, Value.int IntKind.i64 a, Value.int IntKind.i64 e]]) (True ∧ True ∧ True ∧ True ∧ True ∧ True ∧ True ∧ True ∧ (0 ≤ a ∧ a < (↑(ByteArray.size s) : Int)) ∧ True ∧ True ∧ True ∧ (toI (Value.int IntKind.i64 32) = 0 → False) ∧ True ∧ (toI (Value.int IntKind.i64 32) = 0 → False) ∧ True ∧ True ∧ True ∧ True ∧ True ∧ pIf (!decide (IntKind.wrap IntKind.i64 (Int.tdiv (IntKind.wrap IntKind.i64 (↑(UInt8.toNat (Array.getD (ByteArray.data s) (Int.toNat a) 0)) : Int)) 32) = one)) (True ∧ True ∧ True ∧ True ∧ pIf (!decide (IntKind.wrap IntKind.i64 (Int.tdiv (IntKind.wrap IntKind.i64 (↑(UInt8.toNat (Array.getD (ByteArray.data s) (Int.toNat a) 0)) : Int)) 32) = two)) (True ∧ True ∧ True ∧ True ∧ True ∧ True ∧ True ∧ (True ∧ True ∧ True ∧ True ∧ True) ∧ true = true ∧ Post (Value.tuple #[Value.int IntKind.i64 0, Value.int IntKind.u64 0, Value.int IntKind.i64 0, Value.int IntKind.i64 5]) [[Value.string s, Value.int IntKind.i64 a, Value.int IntKind.i64 e]]) (True ∧ True ∧ True ∧ True ∧ pIf (decide (Int.tmod (IntKind.wrap IntKind.i64 (↑(UInt8.toNat (Array.getD (ByteArray.data s) (Int.toNat a) 0)) : Int)) 32 > 27)) (True ∧ True ∧ True ∧ True ∧ True ∧ (True ∧ True ∧ True ∧ True ∧ True) ∧ true = true ∧ Post (Value.tuple #[Value.int IntKind.i64 0, Value.int IntKind.u64 0, Value.int IntKind.i64 0, Value.int IntKind.i64 5]) [[Value.string s, Value.int IntKind.i64 a, Value.int IntKind.i64 e]]) (True ∧ True ∧ True ∧ pIf (decide (Int.tmod (IntKind.wrap IntKind.i64 (↑(UInt8.toNat (Array.getD (ByteArray.data s) (Int.toNat a) 0)) : Int)) 32 < 24)) (True ∧ True ∧ True ∧ True ∧ True ∧ True ∧ True ∧ (True ∧ True ∧ True ∧ True ∧ True) ∧ true = true ∧ Post (Value.tuple #[Value.int IntKind.i64 (IntKind.wrap IntKind.i64 (Int.tdiv (IntKind.wrap IntKind.i64 (↑(UInt8.toNat (Array.getD (ByteArray.data s) (Int.toNat a) 0)) : Int)) 32)), Value.int IntKind.u64 (IntKind.wrap IntKind.u64 (Int.tmod (IntKind.wrap IntKind.i64 (↑(UInt8.toNat (Array.getD (ByteArray.data s) (Int.toNat a) 0)) : Int)) 32)), Value.int IntKind.i64 1, Value.int IntKind.i64 0]) [[Value.string s, Value.int IntKind.i64 a, Value.int IntKind.i64 e]]) (True ∧ True ∧ True ∧ (NLs [Value.string s, Value.int IntKind.i64 a, Value.int IntKind.i64 e] ∧ True) ∧ H (lpC Tryz.prog 159 11) (lpK Tryz.prog 159 11) (stV [(0, some (Value.pointer (some (Addr.mk 0 0 none)))), (11, some (Value.int IntKind.i64 (IntKind.wrap IntKind.i64 (Int.tdiv (IntKind.wrap IntKind.i64 (↑(UInt8.toNat (Array.getD (ByteArray.data s) (Int.toNat a) 0)) : Int)) 32)))), (12, some (Value.int IntKind.i64 (Int.tmod (IntKind.wrap IntKind.i64 (↑(UInt8.toNat (Array.getD (ByteArray.data s) (Int.toNat a) 0)) : Int)) 32))), (13, some (Value.int IntKind.i64 1)), (14, some (Value.int IntKind.i64 24))] [(0, some (AObj.cells [Value.string s, Value.int IntKind.i64 a, Value.int IntKind.i64 e] true))] 1))))) (True ∧ True ∧ True ∧ True ∧ True ∧ pIf (decide (Int.tmod (IntKind.wrap IntKind.i64 (↑(UInt8.toNat (Array.getD (ByteArray.data s) (Int.toNat a) 0)) : Int)) 32 > 27)) (True ∧ True ∧ True ∧ True ∧ True ∧ (True ∧ True ∧ True ∧ True ∧ True) ∧ true = true ∧ Post (Value.tuple #[Value.int IntKind.i64 0, Value.int IntKind.u64 0, Value.int IntKind.i64 0, Value.int IntKind.i64 5]) [[Value.string s, Value.int IntKind.i64 a, Value.int IntKind.i64 e]]) (True ∧ True ∧ True ∧ pIf (decide (Int.tmod (IntKind.wrap IntKind.i64 (↑(UInt8.toNat (Array.getD (ByteArray.data s) (Int.toNat a) 0)) : Int)) 32 < 24)) (True ∧ True ∧ True ∧ True ∧ True ∧ True ∧ True ∧ (True ∧ True ∧ True ∧ True ∧ True) ∧ true = true ∧ Post (Value.tuple #[Value.int IntKind.i64 (IntKind.wrap IntKind.i64 (Int.tdiv (IntKind.wrap IntKind.i64 (↑(UInt8.toNat (Array.getD (ByteArray.data s) (Int.toNat a) 0)) : Int)) 32)), Value.int IntKind.u64 (IntKind.wrap IntKind.u64 (Int.tmod (IntKind.wrap IntKind.i64 (↑(UInt8.toNat (Array.getD (ByteArray.data s) (Int.toNat a) 0)) : Int)) 32)), Value.int IntKind.i64 1, Value.int IntKind.i64 0]) [[Value.string s, Value.int IntKind.i64 a, Value.int IntKind.i64 e]]) (True ∧ True ∧ True ∧ (NLs [Value.string s, Value.int IntKind.i64 a, Value.int IntKind.i64 e] ∧ True) ∧ H (lpC Tryz.prog 159 11) (lpK Tryz.prog 159 11) (stV [(0, some (Value.pointer (some (Addr.mk 0 0 none)))), (11, some (Value.int IntKind.i64 (IntKind.wrap IntKind.i64 (Int.tdiv (IntKind.wrap IntKind.i64 (↑(UInt8.toNat (Array.getD (ByteArray.data s) (Int.toNat a) 0)) : Int)) 32)))), (12, some (Value.int IntKind.i64 (Int.tmod (IntKind.wrap IntKind.i64 (↑(UInt8.toNat (Array.getD (ByteArray.data s) (Int.toNat a) 0)) : Int)) 32))), (13, some (Value.int IntKind.i64 1)), (14, some (Value.int IntKind.i64 24))] [(0, some (AObj.cells [Value.string s, Value.int IntKind.i64 a, Value.int IntKind.i64 e] true))] 1)))))) := by kernel_rfl
theorem l_argm1 (s : ByteArray) (a e one two k m n i : Int) (H : Code → List Fr → AS → Prop) (Post : Value → List (List Value) → Prop) : vcLI Tryz.prog callRh 159 [ptr0, .int .i64 one, .int .i64 two] [(11, [0, 11, 12, 13, 14]), (18, [0, 11, 13, 15, 16])] 1 11 (stV [(0, some ptr0), (11, some (.int .i64 k)), (12, some (.int .i64 m)), (13, some (.int .i64 n)), (14, some (.int .i64 i))] [(0, some (.cells [.string s, .int .i64 a, .int .i64 e] true))] 1) H Post = (True ∧ True ∧ True ∧ pIf (decide (i < m)) (True ∧ True ∧ True ∧ True ∧ True ∧ True ∧ True ∧ (NLs [Value.string s, Value.int IntKind.i64 a, Value.int IntKind.i64 e] ∧ True) ∧ H (lpC Tryz.prog 159 11) (lpK Tryz.prog 159 11) (stV [(0, some (Value.pointer (some (Addr.mk 0 0 none)))), (11, some (Value.int IntKind.i64 k)), (12, some (Value.int IntKind.i64 m)), (13, some (Value.int IntKind.i64 (IntKind.wrap IntKind.i64 (2 * n)))), (14, some (Value.int IntKind.i64 (IntKind.wrap IntKind.i64 (i + 1))))] [(0, some (AObj.cells [Value.string s, Value.int IntKind.i64 a, Value.int IntKind.i64 e] true))] 1)) (True ∧ True ∧ True ∧ True ∧ True ∧ True ∧ True ∧ True ∧ True ∧ True ∧ True ∧ True ∧ True ∧ pIf (decide (IntKind.wrap IntKind.i64 (IntKind.wrap IntKind.i64 ((↑(ByteArray.size s) : Int) - a) - 1) < n)) (True ∧ True ∧ True ∧ True ∧ (True ∧ True ∧ True ∧ True ∧ True) ∧ true = true ∧ Post (Value.tuple #[Value.int IntKind.i64 0, Value.int IntKind.u64 0, Value.int IntKind.i64 0, Value.int IntKind.i64 3]) [[Value.string s, Value.int IntKind.i64 a, Value.int IntKind.i64 e]]) (True ∧ True ∧ True ∧ (NLs [Value.string s, Value.int IntKind.i64 a, Value.int IntKind.i64 e] ∧ True) ∧ H (lpC Tryz.prog 159 18) (lpK Tryz.prog 159 18) (stV [(0, some (Value.pointer (some (Addr.mk 0 0 none)))), (11, some (Value.int IntKind.i64 k)), (13, some (Value.int IntKind.i64 n)), (15, some (Value.int IntKind.u64 0)), (16, some (Value.int IntKind.i64 0))] [(0, some (AObj.cells [Value.string s, Value.int IntKind.i64 a, Value.int IntKind.i64 e] true))] 1)))) := by kernel_rfl
theorem l_argm2 (s : ByteArray) (a e one two k n v i : Int) (H : Code → List Fr → AS → Prop) (Post : Value → List (List Value) → Prop) : vcLI Tryz.prog callRh 159 [ptr0, .int .i64 one, .int .i64 two] [(11, [0, 11, 12, 13, 14]), (18, [0, 11, 13, 15, 16])] 1 18 (stV [(0, some ptr0), (11, some (.int .i64 k)), (13, some (.int .i64 n)), (15, some (.int .u64 v)), (16, some (.int .i64 i))] [(0, some (.cells [.string s, .int .i64 a, .int .i64 e] true))] 1) H Post = (True ∧ True ∧ True ∧ pIf (decide (i < n)) (True ∧ True ∧ True ∧ True ∧ True ∧ True ∧ True ∧ True ∧ True ∧ True ∧ True ∧ True ∧ True ∧ (0 ≤ IntKind.wrap IntKind.i64 (IntKind.wrap IntKind.i64 (a + 1) + i) ∧ IntKind.wrap IntKind.i64 (IntKind.wrap IntKind.i64 (a + 1) + i) < (↑(ByteArray.size s) : Int)) ∧ True ∧ True ∧ True ∧ True ∧ True ∧ True ∧ True ∧ (NLs [Value.string s, Value.int IntKind.i64 a, Value.int IntKind.i64 e] ∧ True) ∧ H (lpC Tryz.prog 159 18) (lpK Tryz.prog 159 18) (stV [(0, some (Value.pointer (some (Addr.mk 0 0 none)))), (11, some (Value.int IntKind.i64 k)), (13, some (Value.int IntKind.i64 n)), (15, some (Value.int IntKind.u64 (IntKind.wrap IntKind.u64 (IntKind.wrap IntKind.u64 (256 * v) + IntKind.wrap IntKind.u64 (↑(UInt8.toNat (Array.getD (ByteArray.data s) (Int.toNat (IntKind.wrap IntKind.i64 (IntKind.wrap IntKind.i64 (a + 1) + i))) 0)) : Int))))), (16, some (Value.int IntKind.i64 (IntKind.wrap IntKind.i64 (i + 1))))] [(0, some (AObj.cells [Value.string s, Value.int IntKind.i64 a, Value.int IntKind.i64 e] true))] 1)) (True ∧ True ∧ True ∧ True ∧ True ∧ True ∧ True ∧ True ∧ True ∧ True ∧ True ∧ True ∧ True ∧ True ∧ True ∧ True ∧ True ∧ (0 ≤ IntKind.wrap IntKind.i64 (IntKind.wrap IntKind.i64 (a + 1) + n) ∧ 0 ≤ a ∧ Int.toNat a ≤ Int.toNat (IntKind.wrap IntKind.i64 (IntKind.wrap IntKind.i64 (a + 1) + n)) ∧ Int.toNat (IntKind.wrap IntKind.i64 (IntKind.wrap IntKind.i64 (a + 1) + n)) ≤ ByteArray.size s) ∧ ∃ (k_1 : Nat), ∃ (v_1 : Nat), eqL [Value.int IntKind.i64 k, Value.int IntKind.u64 v] [Value.int IntKind.i64 (↑k_1 : Int), Value.int IntKind.u64 (↑v_1 : Int)] ∧ k_1 < 8 ∧ v_1 < 18446744073709551616 ∧ True ∧ True ∧ pIf (!decide (str (hd k_1 v_1) = ByteArray.extract s (Int.toNat a) (Int.toNat (IntKind.wrap IntKind.i64 (IntKind.wrap IntKind.i64 (a + 1) + n))))) (True ∧ True ∧ True ∧ True ∧ (True ∧ True ∧ True ∧ True ∧ True) ∧ true = true ∧ Post (Value.tuple #[Value.int IntKind.i64 0, Value.int IntKind.u64 0, Value.int IntKind.i64 0, Value.int IntKind.i64 5]) [[Value.string s, Value.int IntKind.i64 a, Value.int IntKind.i64 e]]) (True ∧ True ∧ True ∧ True ∧ True ∧ True ∧ True ∧ True ∧ (True ∧ True ∧ True ∧ True ∧ True) ∧ true = true ∧ Post (Value.tuple #[Value.int IntKind.i64 k, Value.int IntKind.u64 v, Value.int IntKind.i64 (IntKind.wrap IntKind.i64 (1 + n)), Value.int IntKind.i64 0]) [[Value.string s, Value.int IntKind.i64 a, Value.int IntKind.i64 e]]))) := by kernel_rfl
theorem getD_list (s : ByteArray) (i : Nat) : s.data.getD i 0 = (s.data.toList[i]?).getD 0 := by rw [Array.getD_eq_getD_getElem?, ← Array.getElem?_toList]
theorem ext_size (s : ByteArray) (a : Nat) : (s.extract a s.size).size = s.size - a := by
  rw [size_list, ext_list, List.length_take, List.length_drop, size_list]
  omega
theorem ext_byte0 {s : ByteArray} {a : Nat} (h : a < s.size) : s.data.getD a 0 = byte0 (s.extract a s.size) := by
  unfold byte0
  rw [getD_list, getD_list, ext_list, List.getElem?_take, if_pos (by omega), List.getElem?_drop, Nat.add_zero]
theorem ext_ext (s : ByteArray) (a i j : Nat) (h : a + j ≤ s.size) : (s.extract a s.size).extract i j = s.extract (a + i) (a + j) := by
  refine ba_ext ?_
  rw [ext_list, ext_list, ext_list, List.drop_take, List.drop_drop, List.take_take]
  congr 1
  omega
theorem ext_tail (s : ByteArray) (a n : Nat) : (s.extract a s.size).extract n (s.extract a s.size).size = s.extract (a + n) s.size := by
  refine ba_ext ?_
  rw [ext_size, ext_list, ext_list, ext_list, List.drop_take, List.drop_drop, List.take_take]
  congr 1
  omega
abbrev OkAr (one two : Int) (r : Nat) (Post : Value → List (List Value) → Prop) (st : AS) : Prop := OkI Tryz.prog 159 [ptr0, .int .i64 one, .int .i64 two] 1 Post (lpC Tryz.prog 159 r) (lpK Tryz.prog 159 r) st
abbrev argHp (s : ByteArray) (a e : Nat) : List (Nat × Option AObj) := [(0, some (.cells [.string s, .int .i64 a, .int .i64 e] true))]
theorem nls_arg (s : ByteArray) (a e : Int) : NLs [.string s, .int .i64 a, .int .i64 e] := by
  intro v hv
  simp at hv
  rcases hv with rfl | rfl | rfl <;> rfl
theorem mul256 {v : Nat} {b : UInt8} (h : 256 * v + b.toNat < 18446744073709551616) : IntKind.u64.wrap (IntKind.u64.wrap (256 * (v : Int)) + IntKind.u64.wrap ((b.toNat : Nat) : Int)) = ((256 * v + b.toNat : Nat) : Int) := by
  have hb := b.toNat_lt
  rw [show 256 * (v : Int) = ((256 * v : Nat) : Int) by omega, wrapU64 (n := 256 * v) (by omega), wrapU64 (n := b.toNat) (by omega), show ((256 * v : Nat) : Int) + ((b.toNat : Nat) : Int) = ((256 * v + b.toNat : Nat) : Int) by omega, wrapU64 h]
theorem arg_bytes (s : ByteArray) (a e k n : Nat) (one two : Int) (hs : s.size < 2 ^ 62) (hk : k < 8) (hn : n ≤ 8) (hz : a + 1 + n ≤ s.size) (L : List UInt8) (hL : L = ((s.extract a s.size).extract 1 (1 + n)).data.toList) (Post : Value → List (List Value) → Prop)
    (h1 : str (hd k (ofBE L)) ≠ (s.extract a s.size).extract 0 (1 + n) → Post (.tuple #[.int .i64 0, .int .u64 0, .int .i64 0, .int .i64 5]) [[.string s, .int .i64 a, .int .i64 e]])
    (h2 : str (hd k (ofBE L)) = (s.extract a s.size).extract 0 (1 + n) → Post (.tuple #[.int .i64 k, .int .u64 (ofBE L : Nat), .int .i64 (1 + n : Nat), .int .i64 0]) [[.string s, .int .i64 a, .int .i64 e]]) :
    OkAr one two 18 Post (stV [(0, some ptr0), (11, some (.int .i64 k)), (13, some (.int .i64 n)), (15, some (.int .u64 0)), (16, some (.int .i64 0))] (argHp s a e) 1) := by
  have hlen : L.length = n := by
    rw [hL, ext_ext _ _ _ _ (by omega), ext_list, List.length_take, List.length_drop]
    rw [size_list] at hz
    omega
  have hat : ∀ i (hi : i < L.length), L[i] = s.data.getD (a + 1 + i) 0 := fun i hi => by
    rw [getD_list]
    have : L[i]? = s.data.toList[a + 1 + i]? := by
      rw [hL, ext_ext _ _ _ _ (by omega), ext_list, List.getElem?_take, if_pos (by omega), List.getElem?_drop]
    rw [← this, List.getElem?_eq_getElem hi]
    rfl
  have hlt : ofBE L < 18446744073709551616 := Nat.lt_of_lt_of_le (ofBE_lt n L hlen) (Nat.le_trans (Nat.pow_le_pow_right (by decide) hn) (by decide))
  rw [ext_ext _ _ _ _ (by omega)] at h1 h2
  clear hL
  refine down (n := L.length) (p := fun i => OkAr one two 18 Post (stV [(0, some ptr0), (11, some (.int .i64 k)), (13, some (.int .i64 n)), (15, some (.int .u64 (ofBE (L.take i) : Nat))), (16, some (.int .i64 i))] (argHp s a e) 1)) ?_ (fun i hi ih => ?_)
  · refine ok_I (vc := callRh) tabR5h_ok mixed _ (l_argm2 s a e one two k n (ofBE (L.take L.length) : Nat) L.length _ _) ?_
    rw [List.take_length]
    have e1 : IntKind.i64.wrap ((a : Int) + 1) = ((a + 1 : Nat) : Int) := wrapSucc (by omega)
    have e2 : IntKind.i64.wrap (((a + 1 : Nat) : Int) + (n : Int)) = ((a + (1 + n) : Nat) : Int) := by rw [show ((a + 1 : Nat) : Int) + (n : Int) = ((a + (1 + n) : Nat) : Int) by omega, wrapNat (by omega)]
    have e3 : IntKind.i64.wrap (1 + (n : Int)) = ((1 + n : Nat) : Int) := by rw [show 1 + (n : Int) = ((1 + n : Nat) : Int) by omega, wrapNat (by omega)]
    simp only [e1, e2, e3]
    simp only [true_and, and_true, pIf_iff, decide_eq_true_eq, decide_eq_false_iff_not, Bool.not_eq_true', Bool.not_eq_false', Int.toNat_natCast]
    refine ⟨fun h' => by omega, fun _ => ⟨⟨by omega, by omega, by omega, by omega⟩, k, ofBE L, rfl, hk, hlt, fun h' => h1 h', fun h' => h2 h'⟩⟩
  · refine ok_I (vc := callRh) tabR5h_ok mixed _ (l_argm2 s a e one two k n (ofBE (L.take i) : Nat) i _ _) ?_
    have hv : 256 * ofBE (L.take i) + L[i].toNat < 18446744073709551616 := by
      have := ofBE_lt (i + 1) (L.take (i + 1)) (by rw [List.length_take]; omega)
      rw [← List.take_append_getElem hi, ofBE_snoc] at this
      exact Nat.lt_of_lt_of_le this (Nat.le_trans (Nat.pow_le_pow_right (by decide) (show i + 1 ≤ 8 by omega)) (by decide))
    have e1 : IntKind.i64.wrap ((a : Int) + 1) = ((a + 1 : Nat) : Int) := wrapSucc (by omega)
    have e2 : IntKind.i64.wrap (((a + 1 : Nat) : Int) + (i : Int)) = ((a + 1 + i : Nat) : Int) := by rw [show ((a + 1 : Nat) : Int) + (i : Int) = ((a + 1 + i : Nat) : Int) by omega, wrapNat (by omega)]
    simp only [e1, e2, Int.toNat_natCast, ← hat i hi, mul256 hv, wrapSucc (show i < 2 ^ 62 by omega)]
    simp only [true_and, and_true, pIf_iff, decide_eq_true_eq, decide_eq_false_iff_not]
    refine ⟨fun _ => ⟨⟨by omega, by omega⟩, nls_arg _ _ _, ?_⟩, fun h' => by omega⟩
    rw [← List.take_append_getElem hi, ofBE_snoc] at ih
    exact ih
theorem two_pow_dbl {j : Nat} (h : j ≤ 3) : IntKind.i64.wrap (2 * ((2 ^ j : Nat) : Int)) = ((2 ^ (j + 1) : Nat) : Int) := by
  have : j = 0 ∨ j = 1 ∨ j = 2 ∨ j = 3 := by omega
  rcases this with rfl | rfl | rfl | rfl <;> decide
def c_argm3 (args : List Value) (conts : List (List Value)) (Post : Value → List (List Value) → Prop) : Prop :=
  ∃ (s : ByteArray) (a e one two : Nat), args = [ptr0, .int .i64 one, .int .i64 two] ∧ conts = [[.string s, .int .i64 a, .int .i64 e]] ∧ a ≤ s.size ∧ s.size < 2 ^ 62 ∧
    (pk (s.extract a s.size) one two = (0, 0, 0, 3) → Post (.tuple [.int .i64 0, .int .u64 0, .int .i64 0, .int .i64 3].toArray) conts) ∧ (pk (s.extract a s.size) one two = (0, 0, 0, 5) → Post (.tuple [.int .i64 0, .int .u64 0, .int .i64 0, .int .i64 5].toArray) conts) ∧
    ∀ k v n : Nat, pk (s.extract a s.size) one two = (k, v, n, 0) → Post (.tuple [.int .i64 k, .int .u64 v, .int .i64 n, .int .i64 0].toArray) conts
theorem tdiv32 (b : UInt8) : IntKind.i64.wrap (Int.tdiv (IntKind.i64.wrap ((b.toNat : Nat) : Int)) 32) = ((b.toNat / 32 : Nat) : Int) := by
  have := b.toNat_lt
  rw [wrap64 (n := ((b.toNat : Nat) : Int)) (by omega) (by omega), Int.tdiv_eq_ediv_of_nonneg (by omega), wrap64 (by omega) (by omega)]
  omega
theorem tmod32 (b : UInt8) : Int.tmod (IntKind.i64.wrap ((b.toNat : Nat) : Int)) 32 = ((b.toNat % 32 : Nat) : Int) := by
  have := b.toNat_lt
  rw [wrap64 (n := ((b.toNat : Nat) : Int)) (by omega) (by omega), Int.tmod_eq_emod_of_nonneg (by omega)]
  omega
theorem ok_argm : IEntOk Tryz.prog ⟨159, c_argm3⟩ := by
  rintro args conts Post ⟨s, a, e, one, two, rfl, rfl, ha, hs, p3, p5, p0⟩
  have key : ∀ k V z : Nat, pk (s.extract a s.size) one two = (k, V, z, 0) → Post (.tuple #[.int .i64 k, .int .u64 V, .int .i64 z, .int .i64 0]) [[.string s, .int .i64 a, .int .i64 e]] := p0
  have q3 : pk (s.extract a s.size) one two = (0, 0, 0, 3) → Post (.tuple #[.int .i64 0, .int .u64 0, .int .i64 0, .int .i64 3]) [[.string s, .int .i64 a, .int .i64 e]] := p3
  have q5 : pk (s.extract a s.size) one two = (0, 0, 0, 5) → Post (.tuple #[.int .i64 0, .int .u64 0, .int .i64 0, .int .i64 5]) [[.string s, .int .i64 a, .int .i64 e]] := p5
  clear p0 p3 p5
  refine spec_I (vc := callRh) tabR5h_ok mixed (by kernel_rfl) (by kernel_rfl) _ (e_argm s a e one two _ _) ?_
  simp only [Int.toNat_natCast]
  have hsz := ext_size s a
  generalize hT : s.extract a s.size = T at *
  simp only [tdiv32, tmod32]
  simp only [true_and, and_true, pIf_iff, decide_eq_true_eq, decide_eq_false_iff_not, Bool.not_eq_true', Bool.not_eq_false']
  refine ⟨fun h0 => q3 ?_, fun h0 => ?_⟩
  · unfold pk
    rw [if_pos (by omega)]
  have hb0 : s.data.getD a 0 = byte0 T := by rw [← hT]; exact ext_byte0 (by omega)
  simp only [hb0]
  have hlt := (byte0 T).toNat_lt
  generalize hb : (byte0 T).toNat = b at *
  refine ⟨⟨by omega, by omega⟩, by decide, by decide, fun n1 => ⟨fun n2 => q5 ?_, fun e2 => ?_⟩, fun e1 => ?_⟩
  · unfold pk
    rw [if_neg (by omega), if_pos (.inl ⟨by rw [hb]; omega, by rw [hb]; omega⟩)]
  all_goals
    have hk : ¬ (b / 32 ≠ one ∧ b / 32 ≠ two) := by omega
    refine ⟨fun h1 => q5 ?_, fun h1 => ⟨fun h2 => ?_, fun h2 => ⟨nls_arg _ _ _, ?_⟩⟩⟩
    · unfold pk
      rw [if_neg (by omega), if_pos (.inr (by rw [hb]; omega))]
    · have : pk T one two = (b / 32, b % 32, 1, 0) := by
        unfold pk
        rw [if_neg (by omega), hb, if_neg (by omega), if_pos (by omega)]
      rw [wrapU64 (by omega)]
      exact key _ _ _ this
    · have hpw : 2 ^ (b % 32 - 24) ≤ 8 := by
        have : b % 32 - 24 = 0 ∨ b % 32 - 24 = 1 ∨ b % 32 - 24 = 2 ∨ b % 32 - 24 = 3 := by omega
        rcases this with h | h | h | h <;> rw [h] <;> decide
      have hm : b % 32 = 24 + (b % 32 - 24) := by omega
      have hj3 : b % 32 - 24 ≤ 3 := by omega
      have pkE : pk T one two = if T.size < 1 + 2 ^ (b % 32 - 24) then (0, 0, 0, 3) else if str (hd (b / 32) (ofBE (T.extract 1 (1 + 2 ^ (b % 32 - 24))).data.toList)) ≠ T.extract 0 (1 + 2 ^ (b % 32 - 24)) then (0, 0, 0, 5) else (b / 32, ofBE (T.extract 1 (1 + 2 ^ (b % 32 - 24))).data.toList, 1 + 2 ^ (b % 32 - 24), 0) := by
        unfold pk
        rw [if_neg (by omega), hb, if_neg (by omega), if_neg (by omega)]
      have hk8 : b / 32 < 8 := by omega
      rw [hm]
      generalize b % 32 - 24 = j at *
      generalize b / 32 = k at *
      refine down (n := j) (p := fun i => OkAr one two 11 Post (stV [(0, some ptr0), (11, some (.int .i64 k)), (12, some (.int .i64 (24 + j : Nat))), (13, some (.int .i64 (2 ^ i : Nat))), (14, some (.int .i64 (24 + i : Nat)))] (argHp s a e) 1)) ?_ (fun i hi ih => ?_)
      · refine ok_I (vc := callRh) tabR5h_ok mixed _ (l_argm1 s a e one two k (24 + j : Nat) (2 ^ j : Nat) (24 + j : Nat) _ _) ?_
        have e1 : IntKind.i64.wrap (IntKind.i64.wrap (((s.size : Nat) : Int) - (a : Int)) - 1) = ((s.size - a : Nat) : Int) - 1 := by
          rw [show ((s.size : Nat) : Int) - (a : Int) = ((s.size - a : Nat) : Int) by omega, wrapNat (by omega), wrap64 (by omega) (by omega)]
        simp only [e1]
        simp only [true_and, and_true, pIf_iff, decide_eq_true_eq, decide_eq_false_iff_not]
        refine ⟨fun h' => by omega, fun _ => ⟨fun h3 => q3 ?_, fun h3 => ⟨nls_arg _ _ _, ?_⟩⟩⟩
        · rw [pkE, if_pos (by omega)]
        · rw [if_neg (by omega)] at pkE
          refine arg_bytes s a e k (2 ^ j) one two hs hk8 hpw (by omega) _ (by rw [hT]) Post (fun hne => q5 ?_) (fun heq => key _ _ _ ?_)
          · rw [hT] at hne
            rw [pkE, if_pos hne]
          · rw [hT] at heq
            rw [pkE, if_neg (fun hn => hn heq)]
      · refine ok_I (vc := callRh) tabR5h_ok mixed _ (l_argm1 s a e one two k (24 + j : Nat) (2 ^ i : Nat) (24 + i : Nat) _ _) ?_
        simp only [two_pow_dbl (show i ≤ 3 by omega), wrapSucc (show 24 + i < 2 ^ 62 by omega)]
        simp only [true_and, and_true, pIf_iff, decide_eq_true_eq, decide_eq_false_iff_not]
        exact ⟨fun _ => ⟨nls_arg _ _ _, ih⟩, fun h' => by omega⟩
end Go.Proofs.YtngginofamlkkaaGreatDoor
noncomputable section
namespace Go.Proofs.YtngginofamlkkaaGreatDoor
open Go Go.RowKit
set_option maxRecDepth 100000
def callAr : VCall := inlCall Tryz.prog [160] (itabCall [⟨159, c_argm3⟩] noCall) 2
theorem callAr_ok : VCallOk Tryz.prog callAr := inlCall_ok mixed (itabCall_ok (by
  intro e he
  simp only [List.mem_cons, List.not_mem_nil, or_false] at he
  rcases he with rfl
  exact ok_argm) noCall_ok) 2
def callCt : VCall := itabCall [⟨157, c_count⟩] noCall
theorem callCt_ok : VCallOk Tryz.prog callCt := itabCall_ok (by
  intro e he
  simp only [List.mem_cons, List.not_mem_nil, or_false] at he
  rcases he with rfl
  exact ok_count) noCall_ok
theorem e_cTextR (s : ByteArray) (e most : Int) (H : Code → List Fr → AS → Prop) (Post : Value → List (List Value) → Prop) : vcI Tryz.prog callCt 88 [] [[.string s, .int .i64 e]] [ptr0, .int .i64 most] H Post = (True ∧ True ∧ True ∧ true = true ∧ ∃ (s_1 : ByteArray), ∃ (e_1 : Nat), ∃ (kind : Nat), ∃ (most_1 : Nat), ∃ (fl : Bool), eqL [Value.pointer (some (Addr.mk 0 0 none)), Value.int IntKind.i64 2, Value.int IntKind.i64 most, Value.bool true] [Value.pointer (some (Addr.mk 0 0 none)), Value.int IntKind.i64 (↑kind : Int), Value.int IntKind.i64 (↑most_1 : Int), Value.bool fl] ∧ [[Value.string s, Value.int IntKind.i64 e]] = [[Value.string s_1, Value.int IntKind.i64 (↑e_1 : Int)]] ∧ ByteArray.size s_1 < 4611686018427387904 ∧ most_1 < 4611686018427387904 ∧ 1 = 1 ∧ True ∧ True ∧ True ∧ pIf (decide ((↑(Prod.fst (rdHead kind most_1 fl (s_1, e_1))) : Int) = 0)) (True ∧ True ∧ true = true ∧ Post (Value.string (ByteArray.mk #[])) [[Value.string (Prod.fst (Prod.snd (rdHead kind most_1 fl (s_1, e_1)))), Value.int IntKind.i64 (↑(Prod.snd (Prod.snd (rdHead kind most_1 fl (s_1, e_1)))) : Int)]]) (True ∧ True ∧ True ∧ True ∧ True ∧ True ∧ (0 ≤ (↑(Prod.fst (rdHead kind most_1 fl (s_1, e_1))) : Int) ∧ True ∧ 0 ≤ Int.toNat (↑(Prod.fst (rdHead kind most_1 fl (s_1, e_1))) : Int) ∧ Int.toNat (↑(Prod.fst (rdHead kind most_1 fl (s_1, e_1))) : Int) ≤ ByteArray.size (Prod.fst (Prod.snd (rdHead kind most_1 fl (s_1, e_1))))) ∧ True ∧ True ∧ True ∧ True ∧ True ∧ True ∧ True ∧ True ∧ (True ∧ 0 ≤ (↑(Prod.fst (rdHead kind most_1 fl (s_1, e_1))) : Int) ∧ Int.toNat (↑(Prod.fst (rdHead kind most_1 fl (s_1, e_1))) : Int) ≤ ByteArray.size (Prod.fst (Prod.snd (rdHead kind most_1 fl (s_1, e_1)))) ∧ ByteArray.size (Prod.fst (Prod.snd (rdHead kind most_1 fl (s_1, e_1)))) ≤ ByteArray.size (Prod.fst (Prod.snd (rdHead kind most_1 fl (s_1, e_1))))) ∧ True ∧ True ∧ True ∧ 1 ≤ 2 ∧ True ∧ True ∧ True ∧ true = true ∧ Post (Value.string (ByteArray.extract (Prod.fst (Prod.snd (rdHead kind most_1 fl (s_1, e_1)))) 0 (Int.toNat (↑(Prod.fst (rdHead kind most_1 fl (s_1, e_1))) : Int)))) [[Value.string (ByteArray.extract (Prod.fst (Prod.snd (rdHead kind most_1 fl (s_1, e_1)))) (Int.toNat (↑(Prod.fst (rdHead kind most_1 fl (s_1, e_1))) : Int)) (ByteArray.size (Prod.fst (Prod.snd (rdHead kind most_1 fl (s_1, e_1)))))), Value.int IntKind.i64 (↑(Prod.snd (Prod.snd (rdHead kind most_1 fl (s_1, e_1)))) : Int)]])) := by kernel_rfl
theorem e_cListR (s : ByteArray) (e most : Int) (H : Code → List Fr → AS → Prop) (Post : Value → List (List Value) → Prop) : vcI Tryz.prog callCt 91 [] [[.string s, .int .i64 e]] [ptr0, .int .i64 most] H Post = (True ∧ True ∧ True ∧ true = true ∧ ∃ (s_1 : ByteArray), ∃ (e_1 : Nat), ∃ (kind : Nat), ∃ (most_1 : Nat), ∃ (fl : Bool), eqL [Value.pointer (some (Addr.mk 0 0 none)), Value.int IntKind.i64 4, Value.int IntKind.i64 most, Value.bool false] [Value.pointer (some (Addr.mk 0 0 none)), Value.int IntKind.i64 (↑kind : Int), Value.int IntKind.i64 (↑most_1 : Int), Value.bool fl] ∧ [[Value.string s, Value.int IntKind.i64 e]] = [[Value.string s_1, Value.int IntKind.i64 (↑e_1 : Int)]] ∧ ByteArray.size s_1 < 4611686018427387904 ∧ most_1 < 4611686018427387904 ∧ 1 = 1 ∧ True ∧ True ∧ true = true ∧ Post (Value.int IntKind.i64 (↑(Prod.fst (rdHead kind most_1 fl (s_1, e_1))) : Int)) [[Value.string (Prod.fst (Prod.snd (rdHead kind most_1 fl (s_1, e_1)))), Value.int IntKind.i64 (↑(Prod.snd (Prod.snd (rdHead kind most_1 fl (s_1, e_1)))) : Int)]]) := by kernel_rfl
theorem e_rIntR (s : ByteArray) (a e low high : Int) (H : Code → List Fr → AS → Prop) (Post : Value → List (List Value) → Prop) : vcI Tryz.prog callAr 161 [] [[.string s, .int .i64 a, .int .i64 e]] [ptr0, .int .i64 low, .int .i64 high] H Post = (True ∧ True ∧ True ∧ True ∧ True ∧ True ∧ True ∧ True ∧ True ∧ pIf (!decide (e = 0)) (True ∧ True ∧ True ∧ true = true ∧ Post (Value.int IntKind.i64 0) [[Value.string s, Value.int IntKind.i64 a, Value.int IntKind.i64 e]]) (True ∧ True ∧ true = true ∧ ∃ (s_1 : ByteArray), ∃ (a_1 : Nat), ∃ (e_1 : Nat), ∃ (one : Nat), ∃ (two : Nat), eqL [Value.pointer (some (Addr.mk 0 0 none)), Value.int IntKind.i64 0, Value.int IntKind.i64 1] [Value.pointer (some (Addr.mk 0 0 none)), Value.int IntKind.i64 (↑one : Int), Value.int IntKind.i64 (↑two : Int)] ∧ [[Value.string s, Value.int IntKind.i64 a, Value.int IntKind.i64 e]] = [[Value.string s_1, Value.int IntKind.i64 (↑a_1 : Int), Value.int IntKind.i64 (↑e_1 : Int)]] ∧ a_1 ≤ ByteArray.size s_1 ∧ ByteArray.size s_1 < 4611686018427387904 ∧ (pk (ByteArray.extract s_1 a_1 (ByteArray.size s_1)) one two = (0, 0, 0, 3) → 1 = 1 ∧ True ∧ True ∧ True ∧ True ∧ True ∧ True ∧ True ∧ True ∧ True ∧ True ∧ True ∧ True ∧ True ∧ True ∧ True ∧ True ∧ True ∧ True ∧ True ∧ True ∧ True ∧ 3 ≤ 3 ∧ True ∧ True ∧ true = true ∧ Post (Value.int IntKind.i64 0) [[Value.string s, Value.int IntKind.i64 a, Value.int IntKind.i64 3]]) ∧ (pk (ByteArray.extract s_1 a_1 (ByteArray.size s_1)) one two = (0, 0, 0, 5) → 1 = 1 ∧ True ∧ True ∧ True ∧ True ∧ True ∧ True ∧ True ∧ True ∧ True ∧ True ∧ True ∧ True ∧ True ∧ True ∧ True ∧ True ∧ True ∧ True ∧ True ∧ True ∧ True ∧ 3 ≤ 3 ∧ True ∧ True ∧ true = true ∧ Post (Value.int IntKind.i64 0) [[Value.string s, Value.int IntKind.i64 a, Value.int IntKind.i64 5]]) ∧ ∀ (k v n : Nat), pk (ByteArray.extract s_1 a_1 (ByteArray.size s_1)) one two = (k, v, n, 0) → 1 = 1 ∧ True ∧ True ∧ True ∧ True ∧ True ∧ True ∧ True ∧ True ∧ True ∧ True ∧ True ∧ True ∧ True ∧ True ∧ pIf (decide ((↑v : Int) ≥ 9223372036854775808)) (True ∧ True ∧ True ∧ True ∧ True ∧ True ∧ True ∧ True ∧ True ∧ True ∧ 3 ≤ 3 ∧ True ∧ True ∧ true = true ∧ Post (Value.int IntKind.i64 0) [[Value.string s, Value.int IntKind.i64 a, Value.int IntKind.i64 5]]) (True ∧ True ∧ True ∧ True ∧ True ∧ True ∧ True ∧ True ∧ pIf (decide ((↑k : Int) = 1)) (True ∧ True ∧ True ∧ True ∧ True ∧ True ∧ pIf (decide (IntKind.wrap IntKind.i64 (-1 - IntKind.wrap IntKind.i64 (↑v : Int)) < low)) (True ∧ True ∧ True ∧ True ∧ True ∧ True ∧ True ∧ 3 ≤ 3 ∧ True ∧ True ∧ true = true ∧ Post (Value.int IntKind.i64 0) [[Value.string s, Value.int IntKind.i64 a, Value.int IntKind.i64 9]]) (True ∧ True ∧ True ∧ True ∧ pIf (decide (IntKind.wrap IntKind.i64 (-1 - IntKind.wrap IntKind.i64 (↑v : Int)) > high)) (True ∧ True ∧ True ∧ True ∧ True ∧ True ∧ 3 ≤ 3 ∧ True ∧ True ∧ true = true ∧ Post (Value.int IntKind.i64 0) [[Value.string s, Value.int IntKind.i64 a, Value.int IntKind.i64 9]]) (True ∧ True ∧ True ∧ True ∧ True ∧ True ∧ True ∧ True ∧ True ∧ True ∧ 2 ≤ 3 ∧ True ∧ True ∧ True ∧ true = true ∧ Post (Value.int IntKind.i64 (IntKind.wrap IntKind.i64 (-1 - IntKind.wrap IntKind.i64 (↑v : Int)))) [[Value.string s, Value.int IntKind.i64 (IntKind.wrap IntKind.i64 (a + (↑n : Int))), Value.int IntKind.i64 e]]))) (True ∧ True ∧ True ∧ pIf (decide (IntKind.wrap IntKind.i64 (↑v : Int) < low)) (True ∧ True ∧ True ∧ True ∧ True ∧ True ∧ True ∧ 3 ≤ 3 ∧ True ∧ True ∧ true = true ∧ Post (Value.int IntKind.i64 0) [[Value.string s, Value.int IntKind.i64 a, Value.int IntKind.i64 9]]) (True ∧ True ∧ True ∧ True ∧ pIf (decide (IntKind.wrap IntKind.i64 (↑v : Int) > high)) (True ∧ True ∧ True ∧ True ∧ True ∧ True ∧ 3 ≤ 3 ∧ True ∧ True ∧ true = true ∧ Post (Value.int IntKind.i64 0) [[Value.string s, Value.int IntKind.i64 a, Value.int IntKind.i64 9]]) (True ∧ True ∧ True ∧ True ∧ True ∧ True ∧ True ∧ True ∧ True ∧ True ∧ 2 ≤ 3 ∧ True ∧ True ∧ True ∧ true = true ∧ Post (Value.int IntKind.i64 (IntKind.wrap IntKind.i64 (↑v : Int))) [[Value.string s, Value.int IntKind.i64 (IntKind.wrap IntKind.i64 (a + (↑n : Int))), Value.int IntKind.i64 e]])))))) := by kernel_rfl
theorem e_rTextR (s : ByteArray) (a e most : Int) (H : Code → List Fr → AS → Prop) (Post : Value → List (List Value) → Prop) : vcI Tryz.prog callAr 93 [] [[.string s, .int .i64 a, .int .i64 e]] [ptr0, .int .i64 most] H Post = (True ∧ True ∧ True ∧ True ∧ True ∧ True ∧ True ∧ True ∧ True ∧ pIf (!decide (e = 0)) (True ∧ True ∧ True ∧ true = true ∧ Post (Value.string (ByteArray.mk #[])) [[Value.string s, Value.int IntKind.i64 a, Value.int IntKind.i64 e]]) (True ∧ True ∧ true = true ∧ ∃ (s_1 : ByteArray), ∃ (a_1 : Nat), ∃ (e_1 : Nat), ∃ (one : Nat), ∃ (two : Nat), eqL [Value.pointer (some (Addr.mk 0 0 none)), Value.int IntKind.i64 2, Value.int IntKind.i64 2] [Value.pointer (some (Addr.mk 0 0 none)), Value.int IntKind.i64 (↑one : Int), Value.int IntKind.i64 (↑two : Int)] ∧ [[Value.string s, Value.int IntKind.i64 a, Value.int IntKind.i64 e]] = [[Value.string s_1, Value.int IntKind.i64 (↑a_1 : Int), Value.int IntKind.i64 (↑e_1 : Int)]] ∧ a_1 ≤ ByteArray.size s_1 ∧ ByteArray.size s_1 < 4611686018427387904 ∧ (pk (ByteArray.extract s_1 a_1 (ByteArray.size s_1)) one two = (0, 0, 0, 3) → 1 = 1 ∧ True ∧ True ∧ True ∧ True ∧ True ∧ True ∧ True ∧ True ∧ True ∧ True ∧ True ∧ True ∧ True ∧ True ∧ True ∧ True ∧ True ∧ True ∧ True ∧ True ∧ True ∧ True ∧ True ∧ True ∧ True ∧ 3 ≤ 3 ∧ True ∧ True ∧ true = true ∧ Post (Value.string (ByteArray.mk #[])) [[Value.string s, Value.int IntKind.i64 a, Value.int IntKind.i64 3]]) ∧ (pk (ByteArray.extract s_1 a_1 (ByteArray.size s_1)) one two = (0, 0, 0, 5) → 1 = 1 ∧ True ∧ True ∧ True ∧ True ∧ True ∧ True ∧ True ∧ True ∧ True ∧ True ∧ True ∧ True ∧ True ∧ True ∧ True ∧ True ∧ True ∧ True ∧ True ∧ True ∧ True ∧ True ∧ True ∧ True ∧ True ∧ 3 ≤ 3 ∧ True ∧ True ∧ true = true ∧ Post (Value.string (ByteArray.mk #[])) [[Value.string s, Value.int IntKind.i64 a, Value.int IntKind.i64 5]]) ∧ ∀ (k v n : Nat), pk (ByteArray.extract s_1 a_1 (ByteArray.size s_1)) one two = (k, v, n, 0) → 1 = 1 ∧ True ∧ True ∧ True ∧ True ∧ True ∧ True ∧ True ∧ True ∧ True ∧ True ∧ True ∧ True ∧ True ∧ True ∧ pIf (decide (most < 0)) (True ∧ True ∧ True ∧ True ∧ True ∧ True ∧ True ∧ True ∧ True ∧ True ∧ True ∧ True ∧ True ∧ True ∧ True ∧ True ∧ 3 ≤ 3 ∧ True ∧ True ∧ true = true ∧ Post (Value.string (ByteArray.mk #[])) [[Value.string s, Value.int IntKind.i64 a, Value.int IntKind.i64 4]]) (True ∧ True ∧ True ∧ True ∧ True ∧ pIf (decide ((↑v : Int) > IntKind.wrap IntKind.u64 most)) (True ∧ True ∧ True ∧ True ∧ True ∧ True ∧ True ∧ True ∧ True ∧ True ∧ True ∧ True ∧ True ∧ True ∧ True ∧ 3 ≤ 3 ∧ True ∧ True ∧ true = true ∧ Post (Value.string (ByteArray.mk #[])) [[Value.string s, Value.int IntKind.i64 a, Value.int IntKind.i64 4]]) (True ∧ True ∧ True ∧ True ∧ True ∧ True ∧ True ∧ True ∧ True ∧ True ∧ True ∧ True ∧ True ∧ True ∧ True ∧ True ∧ True ∧ True ∧ True ∧ True ∧ pIf (decide ((↑v : Int) > IntKind.wrap IntKind.u64 (IntKind.wrap IntKind.i64 (IntKind.wrap IntKind.i64 ((↑(ByteArray.size s) : Int) - a) - (↑n : Int))))) (True ∧ True ∧ True ∧ True ∧ True ∧ True ∧ True ∧ True ∧ True ∧ True ∧ 3 ≤ 3 ∧ True ∧ True ∧ true = true ∧ Post (Value.string (ByteArray.mk #[])) [[Value.string s, Value.int IntKind.i64 a, Value.int IntKind.i64 3]]) (True ∧ True ∧ True ∧ True ∧ True ∧ True ∧ True ∧ True ∧ True ∧ True ∧ True ∧ True ∧ True ∧ True ∧ True ∧ True ∧ True ∧ True ∧ True ∧ True ∧ True ∧ True ∧ (0 ≤ IntKind.wrap IntKind.i64 (IntKind.wrap IntKind.i64 (a + (↑n : Int)) + IntKind.wrap IntKind.i64 (↑v : Int)) ∧ 0 ≤ IntKind.wrap IntKind.i64 (a + (↑n : Int)) ∧ Int.toNat (IntKind.wrap IntKind.i64 (a + (↑n : Int))) ≤ Int.toNat (IntKind.wrap IntKind.i64 (IntKind.wrap IntKind.i64 (a + (↑n : Int)) + IntKind.wrap IntKind.i64 (↑v : Int))) ∧ Int.toNat (IntKind.wrap IntKind.i64 (IntKind.wrap IntKind.i64 (a + (↑n : Int)) + IntKind.wrap IntKind.i64 (↑v : Int))) ≤ ByteArray.size s) ∧ True ∧ True ∧ True ∧ True ∧ True ∧ True ∧ True ∧ True ∧ True ∧ True ∧ True ∧ True ∧ True ∧ 2 ≤ 3 ∧ True ∧ True ∧ True ∧ true = true ∧ Post (Value.string (ByteArray.extract s (Int.toNat (IntKind.wrap IntKind.i64 (a + (↑n : Int)))) (Int.toNat (IntKind.wrap IntKind.i64 (IntKind.wrap IntKind.i64 (a + (↑n : Int)) + IntKind.wrap IntKind.i64 (↑v : Int)))))) [[Value.string s, Value.int IntKind.i64 (IntKind.wrap IntKind.i64 (IntKind.wrap IntKind.i64 (a + (↑n : Int)) + IntKind.wrap IntKind.i64 (↑v : Int))), Value.int IntKind.i64 e]]))))) := by kernel_rfl
theorem e_rListR (s : ByteArray) (a e most : Int) (H : Code → List Fr → AS → Prop) (Post : Value → List (List Value) → Prop) : vcI Tryz.prog callAr 96 [] [[.string s, .int .i64 a, .int .i64 e]] [ptr0, .int .i64 most] H Post = (True ∧ True ∧ True ∧ True ∧ True ∧ True ∧ True ∧ True ∧ True ∧ pIf (!decide (e = 0)) (True ∧ True ∧ True ∧ true = true ∧ Post (Value.int IntKind.i64 0) [[Value.string s, Value.int IntKind.i64 a, Value.int IntKind.i64 e]]) (True ∧ True ∧ true = true ∧ ∃ (s_1 : ByteArray), ∃ (a_1 : Nat), ∃ (e_1 : Nat), ∃ (one : Nat), ∃ (two : Nat), eqL [Value.pointer (some (Addr.mk 0 0 none)), Value.int IntKind.i64 4, Value.int IntKind.i64 4] [Value.pointer (some (Addr.mk 0 0 none)), Value.int IntKind.i64 (↑one : Int), Value.int IntKind.i64 (↑two : Int)] ∧ [[Value.string s, Value.int IntKind.i64 a, Value.int IntKind.i64 e]] = [[Value.string s_1, Value.int IntKind.i64 (↑a_1 : Int), Value.int IntKind.i64 (↑e_1 : Int)]] ∧ a_1 ≤ ByteArray.size s_1 ∧ ByteArray.size s_1 < 4611686018427387904 ∧ (pk (ByteArray.extract s_1 a_1 (ByteArray.size s_1)) one two = (0, 0, 0, 3) → 1 = 1 ∧ True ∧ True ∧ True ∧ True ∧ True ∧ True ∧ True ∧ True ∧ True ∧ True ∧ True ∧ True ∧ True ∧ True ∧ True ∧ True ∧ True ∧ True ∧ True ∧ True ∧ True ∧ 3 ≤ 3 ∧ True ∧ True ∧ true = true ∧ Post (Value.int IntKind.i64 0) [[Value.string s, Value.int IntKind.i64 a, Value.int IntKind.i64 3]]) ∧ (pk (ByteArray.extract s_1 a_1 (ByteArray.size s_1)) one two = (0, 0, 0, 5) → 1 = 1 ∧ True ∧ True ∧ True ∧ True ∧ True ∧ True ∧ True ∧ True ∧ True ∧ True ∧ True ∧ True ∧ True ∧ True ∧ True ∧ True ∧ True ∧ True ∧ True ∧ True ∧ True ∧ 3 ≤ 3 ∧ True ∧ True ∧ true = true ∧ Post (Value.int IntKind.i64 0) [[Value.string s, Value.int IntKind.i64 a, Value.int IntKind.i64 5]]) ∧ ∀ (k v n : Nat), pk (ByteArray.extract s_1 a_1 (ByteArray.size s_1)) one two = (k, v, n, 0) → 1 = 1 ∧ True ∧ True ∧ True ∧ True ∧ True ∧ True ∧ True ∧ True ∧ True ∧ True ∧ True ∧ True ∧ True ∧ True ∧ pIf (decide (most < 0)) (True ∧ True ∧ True ∧ True ∧ True ∧ True ∧ True ∧ True ∧ True ∧ True ∧ True ∧ True ∧ 3 ≤ 3 ∧ True ∧ True ∧ true = true ∧ Post (Value.int IntKind.i64 0) [[Value.string s, Value.int IntKind.i64 a, Value.int IntKind.i64 4]]) (True ∧ True ∧ True ∧ True ∧ True ∧ pIf (decide ((↑v : Int) > IntKind.wrap IntKind.u64 most)) (True ∧ True ∧ True ∧ True ∧ True ∧ True ∧ True ∧ True ∧ True ∧ True ∧ True ∧ 3 ≤ 3 ∧ True ∧ True ∧ true = true ∧ Post (Value.int IntKind.i64 0) [[Value.string s, Value.int IntKind.i64 a, Value.int IntKind.i64 4]]) (True ∧ True ∧ True ∧ True ∧ True ∧ True ∧ True ∧ True ∧ True ∧ True ∧ True ∧ True ∧ True ∧ 2 ≤ 3 ∧ True ∧ True ∧ True ∧ True ∧ true = true ∧ Post (Value.int IntKind.i64 (IntKind.wrap IntKind.i64 (↑v : Int))) [[Value.string s, Value.int IntKind.i64 (IntKind.wrap IntKind.i64 (a + (↑n : Int))), Value.int IntKind.i64 e]])))) := by kernel_rfl
theorem rdHead_left (kind most : Nat) (fl : Bool) (st : St) : (rdHead kind most fl st).2.1.size ≤ st.1.size ∧ (rdHead kind most fl st).1 ≤ most ∧ (fl = true → (rdHead kind most fl st).1 ≤ (rdHead kind most fl st).2.1.size) := by
  obtain ⟨s, e⟩ := st
  unfold rdHead
  dsimp only
  split
  · exact ⟨Nat.le_refl _, Nat.zero_le _, fun _ => Nat.zero_le _⟩
  split
  · exact ⟨Nat.le_refl _, Nat.zero_le _, fun _ => Nat.zero_le _⟩
  split
  · exact ⟨Nat.le_refl _, Nat.zero_le _, fun _ => Nat.zero_le _⟩
  split
  · exact ⟨Nat.le_refl _, Nat.zero_le _, fun _ => Nat.zero_le _⟩
  · rename_i h1 h2
    dsimp only
    rw [ext_size]
    exact ⟨by omega, by omega, fun hf => by rw [hf] at h2; simp only [true_and] at h2; omega⟩
def c_cText1 (args : List Value) (conts : List (List Value)) (Post : Value → List (List Value) → Prop) : Prop :=
  ∃ (s : ByteArray) (e most : Nat), args = [ptr0, .int .i64 most] ∧ conts = [[.string s, .int .i64 e]] ∧ s.size < 2 ^ 62 ∧ most < 2 ^ 62 ∧ Post (.string (rdText most (s, e)).1) [stC (rdText most (s, e)).2]
def c_cList1 (args : List Value) (conts : List (List Value)) (Post : Value → List (List Value) → Prop) : Prop :=
  ∃ (s : ByteArray) (e most : Nat), args = [ptr0, .int .i64 most] ∧ conts = [[.string s, .int .i64 e]] ∧ s.size < 2 ^ 62 ∧ most < 2 ^ 62 ∧ Post (.int .i64 (rdList most (s, e)).1) [stC (rdList most (s, e)).2]
theorem ext_all (s : ByteArray) : s.extract 0 s.size = s := by
  refine ba_ext ?_
  rw [ext_list, List.drop_zero, size_list, Nat.sub_zero, List.take_length]
theorem ext_none (s : ByteArray) : s.extract 0 0 = ⟨#[]⟩ := by
  refine ba_ext ?_
  rw [ext_list]
  simp
theorem ok_cText1 : IEntOk Tryz.prog ⟨88, c_cText1⟩ := by
  rintro args conts Post ⟨s, e, most, rfl, rfl, hs, hm, h⟩
  refine spec_I (vc := callCt) callCt_ok mixed (by kernel_rfl) (by kernel_rfl) _ (e_cTextR s e most _ _) ?_
  simp only [true_and, and_true, pIf_iff, decide_eq_true_eq, decide_eq_false_iff_not, Int.toNat_natCast]
  obtain ⟨h1, h2, h3⟩ := rdHead_left 2 most true (s, e)
  refine ⟨s, e, 2, most, true, rfl, rfl, hs, hm, fun h0 => ?_, fun h0 => ?_⟩
  · have h0 : (rdHead 2 most true (s, e)).1 = 0 := by omega
    unfold rdText at h
    simp only [h0, ext_all, ext_none] at h
    exact h
  · exact ⟨⟨by omega, Nat.zero_le _, h3 rfl⟩, ⟨by omega, h3 rfl, Nat.le_refl _⟩, by decide, h⟩
theorem ok_cList1 : IEntOk Tryz.prog ⟨91, c_cList1⟩ := by
  rintro args conts Post ⟨s, e, most, rfl, rfl, hs, hm, h⟩
  refine spec_I (vc := callCt) callCt_ok mixed (by kernel_rfl) (by kernel_rfl) _ (e_cListR s e most _ _) ?_
  simp only [true_and, and_true]
  exact ⟨s, e, 4, most, false, rfl, rfl, hs, hm, h⟩
/-- The document's reader: all bytes, and where it stands. -/
def Suf (S r : ByteArray) : Prop := r.size ≤ S.size ∧ r = S.extract (S.size - r.size) S.size
def refC (S : ByteArray) (st : St) : List Value := [.string S, .int .i64 (S.size - st.1.size : Nat), .int .i64 st.2]
theorem suf_of (S : ByteArray) (a : Nat) (h : a ≤ S.size) : Suf S (S.extract a S.size) := by
  refine ⟨by rw [ext_size]; omega, ?_⟩
  rw [ext_size, show S.size - (S.size - a) = a by omega]
theorem suf_all (S : ByteArray) : Suf S S := ⟨Nat.le_refl _, by rw [Nat.sub_self, ext_all]⟩
theorem suf_ext {S r : ByteArray} (h : Suf S r) {n : Nat} (hn : n ≤ r.size) : Suf S (r.extract n r.size) := by
  obtain ⟨h1, h2⟩ := h
  have h3 : r.extract n r.size = S.extract (S.size - r.size + n) S.size := by
    have := ext_tail S (S.size - r.size) n
    rw [← h2] at this
    exact this
  rw [h3]
  exact suf_of S _ (by omega)
theorem suf_head {S r : ByteArray} (h : Suf S r) (kind most : Nat) (fl : Bool) (e : Nat) : Suf S (rdHead kind most fl (r, e)).2.1 := by
  unfold rdHead
  dsimp only
  split
  · exact h
  split
  · exact h
  split
  · exact h
  split
  · exact h
  · refine suf_ext h ?_
    rcases pk_cases r kind kind with ⟨e', _, hp⟩ | ⟨k, v, n, hp, _, _, _, _, h5, _⟩
    · rw [hp]; exact Nat.zero_le _
    · rw [hp]; exact h5
theorem suf_text {S r : ByteArray} (h : Suf S r) (most e : Nat) : Suf S (rdText most (r, e)).2.1 := suf_ext (suf_head h 2 most true e) ((rdHead_left 2 most true (r, e)).2.2 rfl)
theorem suf_int {S r : ByteArray} (h : Suf S r) (low high : Int) (e : Nat) : Suf S (rdInt low high (r, e)).2.1 := by
  unfold rdInt
  dsimp only
  split
  · exact h
  split
  · exact h
  split
  · exact h
  generalize (if (pk r 0 1).1 = 1 then (-1 - ((pk r 0 1).2.1 : Int)) else ((pk r 0 1).2.1 : Int)) = x
  split
  · exact h
  · refine suf_ext h ?_
    rcases pk_cases r 0 1 with ⟨e', _, hp⟩ | ⟨k, v, n, hp, _, _, _, _, h5, _⟩
    · rw [hp]; exact Nat.zero_le _
    · rw [hp]; exact h5
def c_rInt1 (args : List Value) (conts : List (List Value)) (Post : Value → List (List Value) → Prop) : Prop :=
  ∃ (S r : ByteArray) (e : Nat) (low high : Int), args = [ptr0, .int .i64 low, .int .i64 high] ∧ conts = [[.string S, .int .i64 (S.size - r.size : Nat), .int .i64 e]] ∧ S.size < 2 ^ 62 ∧ Suf S r ∧ Post (.int .i64 (rdInt low high (r, e)).1) [refC S (rdInt low high (r, e)).2]
def c_rText1 (args : List Value) (conts : List (List Value)) (Post : Value → List (List Value) → Prop) : Prop :=
  ∃ (S r : ByteArray) (e most : Nat), args = [ptr0, .int .i64 most] ∧ conts = [[.string S, .int .i64 (S.size - r.size : Nat), .int .i64 e]] ∧ S.size < 2 ^ 62 ∧ Suf S r ∧ most < 2 ^ 62 ∧ Post (.string (rdText most (r, e)).1) [refC S (rdText most (r, e)).2]
def c_rList1 (args : List Value) (conts : List (List Value)) (Post : Value → List (List Value) → Prop) : Prop :=
  ∃ (S r : ByteArray) (e most : Nat), args = [ptr0, .int .i64 most] ∧ conts = [[.string S, .int .i64 (S.size - r.size : Nat), .int .i64 e]] ∧ S.size < 2 ^ 62 ∧ Suf S r ∧ most < 2 ^ 62 ∧ Post (.int .i64 (rdList most (r, e)).1) [refC S (rdList most (r, e)).2]
theorem at_next {S r : ByteArray} (h : Suf S r) {n : Nat} (hn : n ≤ r.size) : S.size - r.size + n = S.size - (r.extract n r.size).size := by
  have := h.1
  rw [ext_size]
  omega
theorem ok_rInt1 : IEntOk Tryz.prog ⟨161, c_rInt1⟩ := by
  rintro args conts Post ⟨S, r, e, low, high, rfl, rfl, hs, hr, h⟩
  refine spec_I (vc := callAr) callAr_ok mixed (by kernel_rfl) (by kernel_rfl) _ (e_rIntR S (S.size - r.size : Nat) e low high _ _) ?_
  simp only [true_and, and_true, pIf_iff, decide_eq_true_eq, decide_eq_false_iff_not, Bool.not_eq_true', Bool.not_eq_false']
  have hrs := hr.1
  refine ⟨fun h0 => ?_, fun h0 => ⟨S, S.size - r.size, e, 0, 1, rfl, rfl, by omega, hs, fun hp => ?_, fun hp => ?_, fun k v n hp => ?_⟩⟩
  · unfold rdInt at h
    rw [if_pos (show e ≠ 0 by omega)] at h
    exact h
  all_goals rw [← hr.2] at hp
  · unfold rdInt at h
    rw [if_neg (show ¬ e ≠ 0 by omega)] at h
    simp only [hp] at h
    exact ⟨Nat.le_refl _, h⟩
  · unfold rdInt at h
    rw [if_neg (show ¬ e ≠ 0 by omega)] at h
    simp only [hp] at h
    exact ⟨Nat.le_refl _, h⟩
  · obtain ⟨hn, hv⟩ := pk_size hp
    have he0 : e = 0 := by omega
    subst he0
    unfold rdInt at h
    rw [if_neg (show ¬ 0 ≠ 0 by omega)] at h
    simp only [hp] at h
    rw [if_neg (by decide)] at h
    refine ⟨fun h1 => ?_, fun h1 => ?_⟩
    · rw [if_pos (by omega)] at h; exact ⟨Nat.le_refl _, h⟩
    · rw [if_neg (by omega)] at h
      rw [wrap64 (n := (v : Int)) (by omega) (by omega), wrap64 (n := -1 - (v : Int)) (by omega) (by omega), show ((S.size - r.size : Nat) : Int) + (n : Int) = ((S.size - r.size + n : Nat) : Int) by omega, wrapNat (by omega), at_next hr hn]
      refine ⟨fun hk => ?_, fun hk => ?_⟩
      · rw [if_pos (show k = 1 by omega)] at h
        refine ⟨fun h2 => ?_, fun h2 => ⟨fun h3 => ?_, fun h3 => ?_⟩⟩
        · rw [if_pos (.inl h2)] at h; exact ⟨Nat.le_refl _, h⟩
        · rw [if_pos (.inr h3)] at h; exact ⟨Nat.le_refl _, h⟩
        · rw [if_neg (by omega)] at h; exact ⟨by decide, h⟩
      · rw [if_neg (show ¬ k = 1 by omega)] at h
        refine ⟨fun h2 => ?_, fun h2 => ⟨fun h3 => ?_, fun h3 => ?_⟩⟩
        · rw [if_pos (.inl h2)] at h; exact ⟨Nat.le_refl _, h⟩
        · rw [if_pos (.inr h3)] at h; exact ⟨Nat.le_refl _, h⟩
        · rw [if_neg (by omega)] at h; exact ⟨by decide, h⟩
theorem ok_rList1 : IEntOk Tryz.prog ⟨96, c_rList1⟩ := by
  rintro args conts Post ⟨S, r, e, most, rfl, rfl, hs, hr, hm, h⟩
  refine spec_I (vc := callAr) callAr_ok mixed (by kernel_rfl) (by kernel_rfl) _ (e_rListR S (S.size - r.size : Nat) e most _ _) ?_
  simp only [true_and, and_true, pIf_iff, decide_eq_true_eq, decide_eq_false_iff_not, Bool.not_eq_true', Bool.not_eq_false']
  have hrs := hr.1
  refine ⟨fun h0 => ?_, fun h0 => ⟨S, S.size - r.size, e, 4, 4, rfl, rfl, by omega, hs, fun hp => ?_, fun hp => ?_, fun k v n hp => ?_⟩⟩
  · unfold rdList rdHead at h
    rw [if_pos (show e ≠ 0 by omega)] at h
    exact h
  all_goals rw [← hr.2] at hp
  · unfold rdList rdHead at h
    rw [if_neg (show ¬ e ≠ 0 by omega)] at h
    simp only [hp] at h
    exact ⟨Nat.le_refl _, h⟩
  · unfold rdList rdHead at h
    rw [if_neg (show ¬ e ≠ 0 by omega)] at h
    simp only [hp] at h
    exact ⟨Nat.le_refl _, h⟩
  · obtain ⟨hn, hv⟩ := pk_size hp
    have he0 : e = 0 := by omega
    subst he0
    unfold rdList rdHead at h
    rw [if_neg (show ¬ 0 ≠ 0 by omega)] at h
    simp only [hp] at h
    rw [if_neg (by decide)] at h
    rw [wrapU64 (n := most) (by omega)]
    refine ⟨fun h1 => by omega, fun h1 => ⟨fun h2 => ?_, fun h2 => ?_⟩⟩
    · rw [if_pos (by omega)] at h; exact ⟨Nat.le_refl _, h⟩
    · rw [if_neg (by omega), if_neg (fun hh => by cases hh.1)] at h
      rw [wrapNat (n := v) (by omega), show ((S.size - r.size : Nat) : Int) + (n : Int) = ((S.size - r.size + n : Nat) : Int) by omega, wrapNat (by omega), at_next hr hn]
      exact ⟨by decide, h⟩
theorem ok_rText1 : IEntOk Tryz.prog ⟨93, c_rText1⟩ := by
  rintro args conts Post ⟨S, r, e, most, rfl, rfl, hs, hr, hm, h⟩
  refine spec_I (vc := callAr) callAr_ok mixed (by kernel_rfl) (by kernel_rfl) _ (e_rTextR S (S.size - r.size : Nat) e most _ _) ?_
  simp only [true_and, and_true, pIf_iff, decide_eq_true_eq, decide_eq_false_iff_not, Bool.not_eq_true', Bool.not_eq_false']
  have hrs := hr.1
  refine ⟨fun h0 => ?_, fun h0 => ⟨S, S.size - r.size, e, 2, 2, rfl, rfl, by omega, hs, fun hp => ?_, fun hp => ?_, fun k v n hp => ?_⟩⟩
  · unfold rdText rdHead at h
    rw [if_pos (show e ≠ 0 by omega)] at h
    simp only [ext_all, ext_none] at h
    exact h
  all_goals rw [← hr.2] at hp
  · unfold rdText rdHead at h
    rw [if_neg (show ¬ e ≠ 0 by omega)] at h
    simp only [hp] at h
    simp only [ne_eq, reduceCtorEq, not_false_eq_true, if_true, ext_all, ext_none] at h
    exact ⟨Nat.le_refl _, h⟩
  · unfold rdText rdHead at h
    rw [if_neg (show ¬ e ≠ 0 by omega)] at h
    simp only [hp] at h
    simp only [ne_eq, reduceCtorEq, not_false_eq_true, if_true, ext_all, ext_none] at h
    exact ⟨Nat.le_refl _, h⟩
  · obtain ⟨hn, hv⟩ := pk_size hp
    have he0 : e = 0 := by omega
    subst he0
    unfold rdText rdHead at h
    rw [if_neg (show ¬ 0 ≠ 0 by omega)] at h
    simp only [hp] at h
    rw [if_neg (by decide)] at h
    rw [wrapU64 (n := most) (by omega)]
    have e1 : IntKind.i64.wrap (((S.size - r.size : Nat) : Int) + (n : Int)) = ((S.size - r.size + n : Nat) : Int) := by rw [show ((S.size - r.size : Nat) : Int) + (n : Int) = ((S.size - r.size + n : Nat) : Int) by omega, wrapNat (by omega)]
    have e2 : IntKind.i64.wrap (IntKind.i64.wrap (((S.size : Nat) : Int) - ((S.size - r.size : Nat) : Int)) - (n : Int)) = ((r.size - n : Nat) : Int) := by
      rw [show ((S.size : Nat) : Int) - ((S.size - r.size : Nat) : Int) = ((r.size : Nat) : Int) by omega, wrapNat (n := r.size) (by omega), show ((r.size : Nat) : Int) - (n : Int) = ((r.size - n : Nat) : Int) by omega, wrapNat (by omega)]
    simp only [e1, e2, wrapU64 (show r.size - n < 18446744073709551616 by omega)]
    refine ⟨fun h1 => by omega, fun h1 => ⟨fun h2 => ?_, fun h2 => ⟨fun h3 => ?_, fun h3 => ?_⟩⟩⟩
    · rw [if_pos (by omega)] at h
      simp only [ext_all, ext_none] at h
      exact ⟨Nat.le_refl _, h⟩
    · rw [if_neg (by omega), if_pos ⟨trivial, by omega⟩] at h
      simp only [ext_all, ext_none] at h
      exact ⟨Nat.le_refl _, h⟩
    · rw [if_neg (by omega), if_neg (fun hh => by omega)] at h
      dsimp only at h
      have hx := suf_ext hr hn
      have hv2 : v ≤ (r.extract n r.size).size := by rw [ext_size]; omega
      have e3 : (r.extract n r.size).extract 0 v = S.extract (S.size - r.size + n) (S.size - r.size + n + v) := by
        have := ext_ext S (S.size - r.size + n) 0 v (by omega)
        rw [← ext_tail, ← hr.2] at this
        exact this
      rw [wrapNat (n := v) (by omega), show ((S.size - r.size + n : Nat) : Int) + (v : Int) = ((S.size - r.size + n + v : Nat) : Int) by omega, wrapNat (n := S.size - r.size + n + v) (by omega)]
      simp only [Int.toNat_natCast]
      rw [e3] at h
      refine ⟨⟨by omega, by omega, by omega, by omega⟩, by decide, ?_⟩
      rw [show S.size - r.size + n + v = S.size - ((r.extract n r.size).extract v (r.extract n r.size).size).size by rw [← at_next hx hv2, ← at_next hr hn]] at h ⊢
      exact h
/-- A function that is not unfolded unasked. -/
def sealed {α : Type} (a : α) : {x : α // x = a} := Classical.choice ⟨⟨a, rfl⟩⟩
def qInt : Int → Int → St → Int × St := (sealed rdInt).1
def qText : Nat → St → ByteArray × St := (sealed rdText).1
def qList : Nat → St → Nat × St := (sealed rdList).1
theorem qInt_eq : qInt = rdInt := (sealed rdInt).2
theorem qText_eq : qText = rdText := (sealed rdText).2
theorem qList_eq : qList = rdList := (sealed rdList).2
theorem qList_left (most : Nat) (st : St) : (qList most st).2.1.size ≤ st.1.size ∧ (qList most st).1 ≤ most := by
  rw [qList_eq]
  exact ⟨(rdHead_left 4 most false st).1, (rdHead_left 4 most false st).2.1⟩
theorem qText_left (most : Nat) (st : St) : (qText most st).2.1.size ≤ st.1.size := by
  have := (rdHead_left 2 most true st).1
  rw [qText_eq]
  unfold rdText
  dsimp only
  rw [ext_size]
  omega
theorem suf_qT {S : ByteArray} {st : St} (h : Suf S st.1) (most : Nat) : Suf S (qText most st).2.1 := by rw [qText_eq]; exact suf_text h most st.2
theorem suf_qL {S : ByteArray} {st : St} (h : Suf S st.1) (most : Nat) : Suf S (qList most st).2.1 := by rw [qList_eq]; exact suf_head h 4 most false st.2
theorem suf_qI {S : ByteArray} {st : St} (h : Suf S st.1) (low high : Int) : Suf S (qInt low high st).2.1 := by rw [qInt_eq]; exact suf_int h low high st.2
/-- The same contracts over a reader's state. -/
def s_Text1 (args : List Value) (conts : List (List Value)) (Post : Value → List (List Value) → Prop) : Prop :=
  ∃ (st : St) (most : Nat), args = [ptr0, .int .i64 most] ∧ conts = [stC st] ∧ st.1.size < 2 ^ 62 ∧ most < 2 ^ 62 ∧ Post (.string (qText most st).1) [stC (qText most st).2]
def s_List1 (args : List Value) (conts : List (List Value)) (Post : Value → List (List Value) → Prop) : Prop :=
  ∃ (st : St) (most : Nat), args = [ptr0, .int .i64 most] ∧ conts = [stC st] ∧ st.1.size < 2 ^ 62 ∧ most < 2 ^ 62 ∧ Post (.int .i64 (qList most st).1) [stC (qList most st).2]
def s_Int1 (args : List Value) (conts : List (List Value)) (Post : Value → List (List Value) → Prop) : Prop :=
  ∃ (st : St) (low high : Int), args = [ptr0, .int .i64 low, .int .i64 high] ∧ conts = [stC st] ∧ st.1.size < 2 ^ 62 ∧ Post (.int .i64 (qInt low high st).1) [stC (qInt low high st).2]
def s_Text2 (args : List Value) (conts : List (List Value)) (Post : Value → List (List Value) → Prop) : Prop :=
  ∃ (S : ByteArray) (st : St) (most : Nat), args = [ptr0, .int .i64 most] ∧ conts = [refC S st] ∧ S.size < 2 ^ 62 ∧ Suf S st.1 ∧ most < 2 ^ 62 ∧ Post (.string (qText most st).1) [refC S (qText most st).2]
def s_List2 (args : List Value) (conts : List (List Value)) (Post : Value → List (List Value) → Prop) : Prop :=
  ∃ (S : ByteArray) (st : St) (most : Nat), args = [ptr0, .int .i64 most] ∧ conts = [refC S st] ∧ S.size < 2 ^ 62 ∧ Suf S st.1 ∧ most < 2 ^ 62 ∧ Post (.int .i64 (qList most st).1) [refC S (qList most st).2]
def s_Int2 (args : List Value) (conts : List (List Value)) (Post : Value → List (List Value) → Prop) : Prop :=
  ∃ (S : ByteArray) (st : St) (low high : Int), args = [ptr0, .int .i64 low, .int .i64 high] ∧ conts = [refC S st] ∧ S.size < 2 ^ 62 ∧ Suf S st.1 ∧ Post (.int .i64 (qInt low high st).1) [refC S (qInt low high st).2]
theorem sok_Text1 : IEntOk Tryz.prog ⟨88, s_Text1⟩ := fun args conts Post ⟨st, m, h1, h2, h3, h4, h5⟩ => ok_cText1 args conts Post ⟨st.1, st.2, m, h1, h2, h3, h4, by rw [← qText_eq]; exact h5⟩
theorem sok_List1 : IEntOk Tryz.prog ⟨91, s_List1⟩ := fun args conts Post ⟨st, m, h1, h2, h3, h4, h5⟩ => ok_cList1 args conts Post ⟨st.1, st.2, m, h1, h2, h3, h4, by rw [← qList_eq]; exact h5⟩
theorem sok_Int1 : IEntOk Tryz.prog ⟨158, s_Int1⟩ := fun args conts Post ⟨st, l, h, h1, h2, h3, h5⟩ => ok_RInt args conts Post ⟨st.1, st.2, l, h, h1, h2, h3, by rw [← qInt_eq]; exact h5⟩
theorem sok_Text2 : IEntOk Tryz.prog ⟨93, s_Text2⟩ := fun args conts Post ⟨S, st, m, h1, h2, h3, h4, h5, h6⟩ => ok_rText1 args conts Post ⟨S, st.1, st.2, m, h1, h2, h3, h4, h5, by rw [← qText_eq]; exact h6⟩
theorem sok_List2 : IEntOk Tryz.prog ⟨96, s_List2⟩ := fun args conts Post ⟨S, st, m, h1, h2, h3, h4, h5, h6⟩ => ok_rList1 args conts Post ⟨S, st.1, st.2, m, h1, h2, h3, h4, h5, by rw [← qList_eq]; exact h6⟩
theorem sok_Int2 : IEntOk Tryz.prog ⟨161, s_Int2⟩ := fun args conts Post ⟨S, st, l, h, h1, h2, h3, h4, h5⟩ => ok_rInt1 args conts Post ⟨S, st.1, st.2, l, h, h1, h2, h3, h4, by rw [← qInt_eq]; exact h5⟩
end Go.Proofs.YtngginofamlkkaaGreatDoor
