/-
  The document's heads, integers, texts and lists. Conditions: integers of 64 bits; texts of at most a million bytes.
-/
import Derived.Test.YtegjnjmimfgijaaGreatDoorOb
noncomputable section
namespace Go.Proofs.YtegjnjmimfgijaaGreatDoor
open Go Go.RowKit
set_option maxRecDepth 100000
theorem e_rhead (k v : Int) (H : Code → List Fr → AS → Prop) (Post : Value → Prop) : vcP Tryz.prog (tabCall tabR5 noCall) 75 [] [.int .i64 k, .int .u64 v] H Post = (True ∧ True ∧ True ∧ True ∧ True ∧ pIf (decide (v < 24)) (True ∧ True ∧ True ∧ True ∧ True ∧ ∃ (v_1 : Nat), ∃ (n : Nat), eqL [Value.int IntKind.u64 (IntKind.wrap IntKind.u64 (IntKind.wrap IntKind.u64 (IntKind.wrap IntKind.i64 (32 * k)) + v)), Value.int IntKind.i64 1] [Value.int IntKind.u64 (↑v_1 : Int), Value.int IntKind.i64 (↑n : Int)] ∧ v_1 < 18446744073709551616 ∧ n ≤ 8 ∧ True ∧ True ∧ Post (Value.string (str (be n v_1)))) (True ∧ True ∧ pIf (decide (v > 255)) (True ∧ True ∧ True ∧ True ∧ pIf (decide (v > 65535)) (True ∧ True ∧ True ∧ True ∧ pIf (decide (v > 4294967295)) (True ∧ True ∧ True ∧ True ∧ True ∧ True ∧ True ∧ ∃ (v_1 : Nat), ∃ (n : Nat), eqL [Value.int IntKind.u64 (IntKind.wrap IntKind.u64 (IntKind.wrap IntKind.i64 (IntKind.wrap IntKind.i64 (32 * k) + 27))), Value.int IntKind.i64 1] [Value.int IntKind.u64 (↑v_1 : Int), Value.int IntKind.i64 (↑n : Int)] ∧ v_1 < 18446744073709551616 ∧ n ≤ 8 ∧ True ∧ True ∧ ∃ (v_2 : Nat), ∃ (n_1 : Nat), eqL [Value.int IntKind.u64 v, Value.int IntKind.i64 8] [Value.int IntKind.u64 (↑v_2 : Int), Value.int IntKind.i64 (↑n_1 : Int)] ∧ v_2 < 18446744073709551616 ∧ n_1 ≤ 8 ∧ ByteArray.size (str (be n v_1)) + ByteArray.size (str (be n_1 v_2)) ≤ 9223372036854775807 ∧ True ∧ True ∧ Post (Value.string (str (be n v_1) ++ str (be n_1 v_2)))) (True ∧ True ∧ True ∧ True ∧ True ∧ ∃ (v_1 : Nat), ∃ (n : Nat), eqL [Value.int IntKind.u64 (IntKind.wrap IntKind.u64 (IntKind.wrap IntKind.i64 (IntKind.wrap IntKind.i64 (32 * k) + 26))), Value.int IntKind.i64 1] [Value.int IntKind.u64 (↑v_1 : Int), Value.int IntKind.i64 (↑n : Int)] ∧ v_1 < 18446744073709551616 ∧ n ≤ 8 ∧ True ∧ True ∧ ∃ (v_2 : Nat), ∃ (n_1 : Nat), eqL [Value.int IntKind.u64 v, Value.int IntKind.i64 4] [Value.int IntKind.u64 (↑v_2 : Int), Value.int IntKind.i64 (↑n_1 : Int)] ∧ v_2 < 18446744073709551616 ∧ n_1 ≤ 8 ∧ ByteArray.size (str (be n v_1)) + ByteArray.size (str (be n_1 v_2)) ≤ 9223372036854775807 ∧ True ∧ True ∧ Post (Value.string (str (be n v_1) ++ str (be n_1 v_2))))) (True ∧ True ∧ pIf (decide (v > 4294967295)) (True ∧ True ∧ True ∧ True ∧ True ∧ True ∧ True ∧ ∃ (v_1 : Nat), ∃ (n : Nat), eqL [Value.int IntKind.u64 (IntKind.wrap IntKind.u64 (IntKind.wrap IntKind.i64 (IntKind.wrap IntKind.i64 (32 * k) + 27))), Value.int IntKind.i64 1] [Value.int IntKind.u64 (↑v_1 : Int), Value.int IntKind.i64 (↑n : Int)] ∧ v_1 < 18446744073709551616 ∧ n ≤ 8 ∧ True ∧ True ∧ ∃ (v_2 : Nat), ∃ (n_1 : Nat), eqL [Value.int IntKind.u64 v, Value.int IntKind.i64 8] [Value.int IntKind.u64 (↑v_2 : Int), Value.int IntKind.i64 (↑n_1 : Int)] ∧ v_2 < 18446744073709551616 ∧ n_1 ≤ 8 ∧ ByteArray.size (str (be n v_1)) + ByteArray.size (str (be n_1 v_2)) ≤ 9223372036854775807 ∧ True ∧ True ∧ Post (Value.string (str (be n v_1) ++ str (be n_1 v_2)))) (True ∧ True ∧ True ∧ True ∧ True ∧ ∃ (v_1 : Nat), ∃ (n : Nat), eqL [Value.int IntKind.u64 (IntKind.wrap IntKind.u64 (IntKind.wrap IntKind.i64 (IntKind.wrap IntKind.i64 (32 * k) + 25))), Value.int IntKind.i64 1] [Value.int IntKind.u64 (↑v_1 : Int), Value.int IntKind.i64 (↑n : Int)] ∧ v_1 < 18446744073709551616 ∧ n ≤ 8 ∧ True ∧ True ∧ ∃ (v_2 : Nat), ∃ (n_1 : Nat), eqL [Value.int IntKind.u64 v, Value.int IntKind.i64 2] [Value.int IntKind.u64 (↑v_2 : Int), Value.int IntKind.i64 (↑n_1 : Int)] ∧ v_2 < 18446744073709551616 ∧ n_1 ≤ 8 ∧ ByteArray.size (str (be n v_1)) + ByteArray.size (str (be n_1 v_2)) ≤ 9223372036854775807 ∧ True ∧ True ∧ Post (Value.string (str (be n v_1) ++ str (be n_1 v_2)))))) (True ∧ True ∧ pIf (decide (v > 65535)) (True ∧ True ∧ True ∧ True ∧ pIf (decide (v > 4294967295)) (True ∧ True ∧ True ∧ True ∧ True ∧ True ∧ True ∧ ∃ (v_1 : Nat), ∃ (n : Nat), eqL [Value.int IntKind.u64 (IntKind.wrap IntKind.u64 (IntKind.wrap IntKind.i64 (IntKind.wrap IntKind.i64 (32 * k) + 27))), Value.int IntKind.i64 1] [Value.int IntKind.u64 (↑v_1 : Int), Value.int IntKind.i64 (↑n : Int)] ∧ v_1 < 18446744073709551616 ∧ n ≤ 8 ∧ True ∧ True ∧ ∃ (v_2 : Nat), ∃ (n_1 : Nat), eqL [Value.int IntKind.u64 v, Value.int IntKind.i64 8] [Value.int IntKind.u64 (↑v_2 : Int), Value.int IntKind.i64 (↑n_1 : Int)] ∧ v_2 < 18446744073709551616 ∧ n_1 ≤ 8 ∧ ByteArray.size (str (be n v_1)) + ByteArray.size (str (be n_1 v_2)) ≤ 9223372036854775807 ∧ True ∧ True ∧ Post (Value.string (str (be n v_1) ++ str (be n_1 v_2)))) (True ∧ True ∧ True ∧ True ∧ True ∧ ∃ (v_1 : Nat), ∃ (n : Nat), eqL [Value.int IntKind.u64 (IntKind.wrap IntKind.u64 (IntKind.wrap IntKind.i64 (IntKind.wrap IntKind.i64 (32 * k) + 26))), Value.int IntKind.i64 1] [Value.int IntKind.u64 (↑v_1 : Int), Value.int IntKind.i64 (↑n : Int)] ∧ v_1 < 18446744073709551616 ∧ n ≤ 8 ∧ True ∧ True ∧ ∃ (v_2 : Nat), ∃ (n_1 : Nat), eqL [Value.int IntKind.u64 v, Value.int IntKind.i64 4] [Value.int IntKind.u64 (↑v_2 : Int), Value.int IntKind.i64 (↑n_1 : Int)] ∧ v_2 < 18446744073709551616 ∧ n_1 ≤ 8 ∧ ByteArray.size (str (be n v_1)) + ByteArray.size (str (be n_1 v_2)) ≤ 9223372036854775807 ∧ True ∧ True ∧ Post (Value.string (str (be n v_1) ++ str (be n_1 v_2))))) (True ∧ True ∧ pIf (decide (v > 4294967295)) (True ∧ True ∧ True ∧ True ∧ True ∧ True ∧ True ∧ ∃ (v_1 : Nat), ∃ (n : Nat), eqL [Value.int IntKind.u64 (IntKind.wrap IntKind.u64 (IntKind.wrap IntKind.i64 (IntKind.wrap IntKind.i64 (32 * k) + 27))), Value.int IntKind.i64 1] [Value.int IntKind.u64 (↑v_1 : Int), Value.int IntKind.i64 (↑n : Int)] ∧ v_1 < 18446744073709551616 ∧ n ≤ 8 ∧ True ∧ True ∧ ∃ (v_2 : Nat), ∃ (n_1 : Nat), eqL [Value.int IntKind.u64 v, Value.int IntKind.i64 8] [Value.int IntKind.u64 (↑v_2 : Int), Value.int IntKind.i64 (↑n_1 : Int)] ∧ v_2 < 18446744073709551616 ∧ n_1 ≤ 8 ∧ ByteArray.size (str (be n v_1)) + ByteArray.size (str (be n_1 v_2)) ≤ 9223372036854775807 ∧ True ∧ True ∧ Post (Value.string (str (be n v_1) ++ str (be n_1 v_2)))) (True ∧ True ∧ True ∧ True ∧ True ∧ ∃ (v_1 : Nat), ∃ (n : Nat), eqL [Value.int IntKind.u64 (IntKind.wrap IntKind.u64 (IntKind.wrap IntKind.i64 (IntKind.wrap IntKind.i64 (32 * k) + 24))), Value.int IntKind.i64 1] [Value.int IntKind.u64 (↑v_1 : Int), Value.int IntKind.i64 (↑n : Int)] ∧ v_1 < 18446744073709551616 ∧ n ≤ 8 ∧ True ∧ True ∧ ∃ (v_2 : Nat), ∃ (n_1 : Nat), eqL [Value.int IntKind.u64 v, Value.int IntKind.i64 1] [Value.int IntKind.u64 (↑v_2 : Int), Value.int IntKind.i64 (↑n_1 : Int)] ∧ v_2 < 18446744073709551616 ∧ n_1 ≤ 8 ∧ ByteArray.size (str (be n v_1)) + ByteArray.size (str (be n_1 v_2)) ≤ 9223372036854775807 ∧ True ∧ True ∧ Post (Value.string (str (be n v_1) ++ str (be n_1 v_2)))))))) := by kernel_rfl
def c_rhead (args : List Value) (Post : Value → Prop) : Prop := ∃ k v : Nat, args = [.int .i64 k, .int .u64 v] ∧ k < 8 ∧ v < 18446744073709551616 ∧ Post (.string (str (hd k v)))
theorem be_one (v : Nat) : be 1 v = [UInt8.ofNat v] := by simp [be]
theorem ok_rhead : EntOk Tryz.prog ⟨75, c_rhead⟩ := by
  rintro args Post ⟨k, v, rfl, hk, hv, h⟩
  refine pure_P (vc := tabCall tabR5 noCall) tabR5_ok mixed (by kernel_rfl) (by kernel_rfl) _ (e_rhead k v _ _) ?_
  have first : ∀ f : Nat, f < 32 → IntKind.u64.wrap (IntKind.i64.wrap (IntKind.i64.wrap (32 * (k : Int)) + (f : Int))) = ((32 * k + f : Nat) : Int) := by
    intro f hf
    rw [wrap64 (n := 32 * (k : Int)) (by omega) (by omega), wrap64 (by omega) (by omega), show 32 * (k : Int) + f = ((32 * k + f : Nat) : Int) by omega, wrapU64 (by omega)]
  have two : ∀ f n : Nat, f < 32 → n ≤ 8 → hd k v = UInt8.ofNat (32 * k + f) :: be n v → ∃ (v_1 : Nat), ∃ (m : Nat), eqL [.int .u64 (IntKind.u64.wrap (IntKind.i64.wrap (IntKind.i64.wrap (32 * (k : Int)) + (f : Int)))), .int .i64 1] [.int .u64 (v_1 : Int), .int .i64 (m : Int)] ∧ v_1 < 18446744073709551616 ∧ m ≤ 8 ∧ ∃ (v_2 : Nat), ∃ (n_1 : Nat), eqL [.int .u64 v, .int .i64 n] [.int .u64 (v_2 : Int), .int .i64 (n_1 : Int)] ∧ v_2 < 18446744073709551616 ∧ n_1 ≤ 8 ∧ ByteArray.size (str (be m v_1)) + ByteArray.size (str (be n_1 v_2)) ≤ 9223372036854775807 ∧ Post (.string (str (be m v_1) ++ str (be n_1 v_2))) := by
    intro f n hf hn he
    refine ⟨32 * k + f, 1, by rw [first f hf]; rfl, by omega, by omega, v, n, rfl, hv, hn, by rw [str_size, str_size, be_len, be_len]; omega, ?_⟩
    rw [str_app, be_one]
    rw [he] at h
    exact h
  have t24 := two 24 1 (by omega) (by omega)
  have t25 := two 25 2 (by omega) (by omega)
  have t26 := two 26 4 (by omega) (by omega)
  have t27 := two 27 8 (by omega) (by omega)
  simp only [true_and, pIf_iff, decide_eq_true_eq, decide_eq_false_iff_not]
  refine ⟨fun h0 => ?_, fun h0 => ⟨fun h1 => ⟨fun h2 => ⟨fun h3 => ?_, fun h3 => ?_⟩, fun h2 => ⟨fun h3 => ?_, fun h3 => ?_⟩⟩, fun h1 => ⟨fun h2 => ⟨fun h3 => ?_, fun h3 => ?_⟩, fun h2 => ⟨fun h3 => ?_, fun h3 => ?_⟩⟩⟩⟩
  · refine ⟨32 * k + v, 1, ?_, by omega, by omega, ?_⟩
    · rw [wrap64 (by omega) (by omega), show 32 * (k : Int) = ((32 * k : Nat) : Int) by omega, wrapU64 (by omega), show ((32 * k : Nat) : Int) + v = ((32 * k + v : Nat) : Int) by omega, wrapU64 (by omega)]; rfl
    · rw [be_one]
      unfold hd at h
      rwa [if_pos (by omega)] at h
  · exact t27 (by unfold hd; rw [if_neg (by omega), if_neg (by omega), if_neg (by omega), if_neg (by omega)])
  · exact t26 (by unfold hd; rw [if_neg (by omega), if_neg (by omega), if_neg (by omega), if_pos (by omega)])
  · omega
  · exact t25 (by unfold hd; rw [if_neg (by omega), if_neg (by omega), if_pos (by omega)])
  · omega
  · omega
  · omega
  · exact t24 (by unfold hd; rw [if_neg (by omega), if_pos (by omega)])
def tabR5h : List Ent := [⟨75, c_rhead⟩]
theorem tabR5h_ok : VCallOk Tryz.prog (tabCall tabR5h noCall) := tabCall_ok (by
  intro e he
  simp only [tabR5h, List.mem_cons, List.not_mem_nil, or_false] at he
  rcases he with rfl
  exact ok_rhead) noCall_ok
theorem e_rInt (n : Int) (H : Code → List Fr → AS → Prop) (Post : Value → Prop) : vcP Tryz.prog (tabCall tabR5h noCall) 57 [] [.int .i64 n] H Post = (True ∧ True ∧ True ∧ pIf (decide (n < 0)) (True ∧ True ∧ True ∧ ∃ (k : Nat), ∃ (v : Nat), eqL [Value.int IntKind.i64 1, Value.int IntKind.u64 (IntKind.wrap IntKind.u64 (IntKind.wrap IntKind.i64 (-1 - n)))] [Value.int IntKind.i64 (↑k : Int), Value.int IntKind.u64 (↑v : Int)] ∧ k < 8 ∧ v < 18446744073709551616 ∧ True ∧ True ∧ Post (Value.string (str (hd k v)))) (True ∧ True ∧ ∃ (k : Nat), ∃ (v : Nat), eqL [Value.int IntKind.i64 0, Value.int IntKind.u64 (IntKind.wrap IntKind.u64 n)] [Value.int IntKind.i64 (↑k : Int), Value.int IntKind.u64 (↑v : Int)] ∧ k < 8 ∧ v < 18446744073709551616 ∧ True ∧ True ∧ Post (Value.string (str (hd k v))))) := by kernel_rfl
theorem e_rText (s : ByteArray) (H : Code → List Fr → AS → Prop) (Post : Value → Prop) : vcP Tryz.prog (tabCall tabR5h noCall) 58 [] [.string s] H Post = (True ∧ True ∧ True ∧ True ∧ ∃ (k : Nat), ∃ (v : Nat), eqL [Value.int IntKind.i64 2, Value.int IntKind.u64 (IntKind.wrap IntKind.u64 (↑(ByteArray.size s) : Int))] [Value.int IntKind.i64 (↑k : Int), Value.int IntKind.u64 (↑v : Int)] ∧ k < 8 ∧ v < 18446744073709551616 ∧ True ∧ ByteArray.size (str (hd k v)) + ByteArray.size s ≤ 9223372036854775807 ∧ True ∧ True ∧ Post (Value.string (str (hd k v) ++ s))) := by kernel_rfl
theorem e_rList (n : Int) (H : Code → List Fr → AS → Prop) (Post : Value → Prop) : vcP Tryz.prog (tabCall tabR5h noCall) 76 [] [.int .i64 n] H Post = (True ∧ True ∧ True ∧ pIf (decide (n < 0)) (True ∧ True ∧ Post (Value.string (ByteArray.mk #[]))) (True ∧ True ∧ ∃ (k : Nat), ∃ (v : Nat), eqL [Value.int IntKind.i64 4, Value.int IntKind.u64 (IntKind.wrap IntKind.u64 n)] [Value.int IntKind.i64 (↑k : Int), Value.int IntKind.u64 (↑v : Int)] ∧ k < 8 ∧ v < 18446744073709551616 ∧ True ∧ True ∧ Post (Value.string (str (hd k v))))) := by kernel_rfl
theorem ok_rInt : EntOk Tryz.prog ⟨57, c_cInt⟩ := by
  rintro args Post ⟨n, rfl, ⟨h1, h2⟩, h⟩
  refine pure_P (vc := tabCall tabR5h noCall) tabR5h_ok mixed (by kernel_rfl) (by kernel_rfl) _ (e_rInt n _ _) ?_
  simp only [true_and, pIf_iff, decide_eq_true_eq, decide_eq_false_iff_not]
  refine ⟨fun h' => ⟨1, (-1 - n).toNat, ?_, by omega, by omega, ?_⟩, fun h' => ⟨0, n.toNat, ?_, by omega, by omega, ?_⟩⟩
  · rw [wrap64 (by omega) (by omega), show -1 - n = (((-1 - n).toNat : Nat) : Int) by omega, wrapU64 (by omega)]; rfl
  · unfold bInt at h; rwa [if_pos h'] at h
  · rw [show n = ((n.toNat : Nat) : Int) by omega, wrapU64 (by omega)]; rfl
  · unfold bInt at h; rwa [if_neg h'] at h
theorem ok_rList : EntOk Tryz.prog ⟨76, c_cList⟩ := by
  rintro args Post ⟨n, rfl, h1, h⟩
  refine pure_P (vc := tabCall tabR5h noCall) tabR5h_ok mixed (by kernel_rfl) (by kernel_rfl) _ (e_rList n _ _) ?_
  simp only [true_and, pIf_iff, decide_eq_true_eq, decide_eq_false_iff_not]
  exact ⟨fun h' => by omega, fun h' => ⟨4, n, by rw [wrapU64 (by omega)]; rfl, by omega, by omega, h⟩⟩
theorem ok_rText : EntOk Tryz.prog ⟨58, c_cText⟩ := by
  rintro args Post ⟨s, rfl, h1, h⟩
  refine pure_P (vc := tabCall tabR5h noCall) tabR5h_ok mixed (by kernel_rfl) (by kernel_rfl) _ (e_rText s _ _) ?_
  simp only [true_and, pIf_iff, decide_eq_true_eq, decide_eq_false_iff_not]
  have hl := hd_len 2 s.size
  exact ⟨2, s.size, by rw [wrapU64 (by omega)]; rfl, by omega, by omega, by rw [str_size]; omega, h⟩
end Go.Proofs.YtegjnjmimfgijaaGreatDoor
