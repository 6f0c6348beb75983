/-
  What Rounded of the reference of weights returns. Conditions: as each theorem states them. Equality of fractions. Conditions: numerator and denominator are below 2^64. The library's contract for math/bits.Mul64, laid at this dump. Conditions: both words in range. What Agrees of package weight returns. Conditions: as each theorem states them.
-/
import Derived.DeepKeys
import Derived.Shelf.Bits.Mul64
import Derived.Test.YtfgeocpooimojaaDoorProg
import Derived.Test.YtfgeocpooimojaaDoorQPfWeightCentres30
import Derived.Test.YtfgeocpooimojaaDoorQPfWeightCentres28
import Derived.Test.YtfgeocpooimojaaDoorQPfWeightCentres26
import Derived.Test.YtfgeocpooimojaaDoorQPfWeightCentres29
namespace Go.Proofs.YtfgeocpooimojaaDoor
open Go Go.RowKit

set_option maxHeartbeats 2000000 in
theorem refRounded_below (a : Wt) (w : World) : Calls Tryd.prog 18 #[.agg #[.int .i64 a.m, .int .i64 a.x, .int .i64 a.y, .int .i64 a.z, .int .i64 a.v]] w fun e w' =>
    e = .returned (.tuple #[vecV (rndX a) (rndY a) (rndZ a), .int .i64 (divE a)]) ∧ Below w.heap.size w w' := by
  by_cases hd : divE a = 0
  · have h := divE_zero hd
    have HV : Hid (vecV (rndX a) (rndY a) (rndZ a) = vecV (rnd a.x a.m) (rnd a.y a.m) (rnd a.z a.m)) := by unfold Hid rndX rndY rndZ; rw [if_pos hd, if_pos hd, if_pos hd]
    obtain ⟨⟨h1, h2⟩, ⟨h3, h4⟩, ⟨h5, h6⟩, ⟨h7, h8⟩⟩ := h
    have r1 := fun W => refRound_any a.x a.m (by omega) (by omega) h1 (by omega) W
    have r2 := fun W => refRound_any a.y a.m (by omega) (by omega) h1 (by omega) W
    have r3 := fun W => refRound_any a.z a.m (by omega) (by omega) h1 (by omega) W
    have R1 := Lib.hid r1; have R2 := Lib.hid r2; have R3 := Lib.hid r3; clear r1 r2 r3
    have HD := Lib.hid hd
    go_enter Tryd.func18, Tryd.ntmps18
    go_wp2_with (go_at_call 34; refine (refDivided_at _ _).mono ?_; rintro e w' ⟨rfl, rfl⟩)
    refine (R1.out _).mono ?_
    rintro e w' ⟨rfl, rfl⟩
    go_wp2_with fail
    refine (R2.out _).mono ?_
    rintro e w' ⟨rfl, rfl⟩
    go_wp2_with fail
    refine (R3.out _).mono ?_
    rintro e w' ⟨rfl, rfl⟩
    go_wp2_with fail
    refine bodyPost_ret (results_cell_tmp rfl _ _ (w.heap.size + 1) 41 #[.int .i64 (rnd a.x a.m), .int .i64 (rnd a.y a.m), .int .i64 (rnd a.z a.m)] _ rfl (by with_reducible exact (blk_new3 _ _ _ _ _).alloc _) Tryd.underlying41 rfl (by kernel_rfl)) rfl ⟨by rw [HV.out, HD.out]; rfl, by go_grown⟩
  · have HV : Hid (vecV (rndX a) (rndY a) (rndZ a) = vecV 0 0 0) := by unfold Hid rndX rndY rndZ; rw [if_neg hd, if_neg hd, if_neg hd]
    have g : (divE a != 0) = true := by simpa using hd
    clear hd
    go_enter Tryd.func18, Tryd.ntmps18
    go_wp2_with (go_at_call 34; refine (refDivided_at _ _).mono ?_; rintro e w' ⟨rfl, rfl⟩)
    refine bodyPost_ret (results_cell_tmp rfl _ _ (w.heap.size + 1) 41 #[.int .i64 0, .int .i64 0, .int .i64 0] _ rfl (by with_reducible exact (blk_new3 _ _ _ _ _).alloc _) Tryd.underlying41 rfl (by kernel_rfl)) rfl ⟨by rw [HV.out]; rfl, by go_grown⟩
end Go.Proofs.YtfgeocpooimojaaDoor
namespace Go.Proofs.YtfgeocpooimojaaDoor
open Go Go.RowKit

theorem wf_u64 (p : Nat) (h : p < 18446744073709551616) : (Lit.int .u64 (p : Int)).wf = true := by
  simp [Lit.wf, IntKind.min, IntKind.max, IntKind.signed, IntKind.bits]
  omega
set_option maxRecDepth 100000 in
theorem lits_rat (n : Bool) (p q : Nat) (hp : p < 18446744073709551616) (hq : q < 18446744073709551616) : ∃ l, Tryd.prog.keyLits 4 37 (ratS n p q).toList = some l := by
  have c1 : Tryd.prog.cellsOf 32 = 1 := by kernel_rfl
  have c2 : Tryd.prog.cellsOf 4 = 1 := by kernel_rfl
  have c3 : Tryd.prog.cellsOf 33 = 4 := by kernel_rfl
  have c4 : Tryd.prog.cellsOf 35 = 5 := by kernel_rfl
  have c5 : Tryd.prog.cellsOf 37 = 10 := by kernel_rfl
  have r4 : List.range 4 = [0, 1, 2, 3] := rfl
  have w0 : (Lit.int .u64 0).wf = true := by decide
  simp [Program.keyLits, Tryd.underlying37, Tryd.underlying35, Tryd.underlying33, Tryd.underlying32, Tryd.underlying4, c1, c2, c3, c4, c5, r4, wf_u64 p hp, wf_u64 q hq, w0]
  have hf : ∀ (i : Nat) (x : i < 2), ¬ ([{ name := "Neg", type := 4, offset := 0, embedded := false, tag := "", pkgPath := "", byteOffset := 0 }, { name := "Mag", type := 33, offset := 1, embedded := false, tag := "", pkgPath := "", byteOffset := 8 }] : List Field)[i].name = "_" := by
    intro i x
    match i, x with
    | 0, _ => show ¬ ("Neg" = "_"); decide
    | 1, _ => show ¬ ("Mag" = "_"); decide
  simp only [if_pos hf]
  exact ⟨_, rfl⟩
theorem eq_rat (n : Bool) (p q : Nat) (hp : p < 18446744073709551616) (hq : q < 18446744073709551616) (w : World) : (Op.equalIn 10000 37 (.agg (ratS n p q)) (.agg (ratS n p q))).run Tryd.prog w = .ok true w := by
  obtain ⟨l, hl⟩ := lits_rat n p q hp hq
  obtain ⟨r, h1, h2⟩ := run_equalIn_deep (P := Tryd.prog) 9996 4 37 (by kernel_rfl) w 4 4 (.agg (ratS n p q)) (.agg (ratS n p q)) l l (by kernel_rfl) (by kernel_rfl) hl hl
  rw [h2.2 rfl] at h1
  exact h1
end Go.Proofs.YtfgeocpooimojaaDoor
namespace Go.Proofs
open Go.Shelf
def Tryd.lays264_ren : Go.Shelf.Ren := ⟨fun | 264 => 41 | n => n, fun | 53 => 32 | 46 => 83 | n => n, fun | n => n⟩
theorem Tryd.lays264 : Go.Proofs.Lays.n264 Tryd.prog Tryd.lays264_ren := {
  mixed := by kernel_rfl
  f264 := Tryd.func41.trans (congrArg some (by kernel_rfl))
  t46 := Tryd.underlying83
  a46 := Tryd.isAgg83
  z46 := Tryd.sizeOf83
  v46 := Tryd.zeroValue83
  t53 := Tryd.underlying32
  a53 := Tryd.isAgg32
  z53 := Tryd.sizeOf32
  v53 := Tryd.zeroValue32 }
open Go.RowKit Go.Lib in
theorem Tryd.bits_Mul64 (x y : Nat) (hx : x < 18446744073709551616) (hy : y < 18446744073709551616) (w : World) :
    Calls Tryd.prog 41 #[.int .u64 x, .int .u64 y] w fun e w' => e = .returned (.tuple #[.int .u64 ((x * y / 18446744073709551616 : Nat) : Int), .int .u64 ((x * y % 18446744073709551616 : Nat) : Int)]) ∧ w' = w := Any.bits_Mul64 Tryd.lays264 x y hx hy w
end Go.Proofs
namespace Go.Proofs.YtfgeocpooimojaaDoor
open Go Go.RowKit

def sqd (a b : Wt) : Int := (a.m - b.m) * (a.m - b.m)
def agrB (a b : Wt) : Bool := a.okB && b.okB && decide (sqd a b ≤ 9000000 * (a.v + b.v))
/-- The order of two numbers of two words. -/
theorem two_words (p q : Nat) : (p / 18446744073709551616 < q / 18446744073709551616 ∨ (p / 18446744073709551616 = q / 18446744073709551616 ∧ p % 18446744073709551616 ≤ q % 18446744073709551616)) ↔ p ≤ q := by omega
theorem two_wordsI (p q : Int) : (hi64 p < hi64 q ∨ (hi64 p = hi64 q ∧ lo64 p ≤ lo64 q)) ↔ p ≤ q := by unfold hi64 lo64; omega
theorem mul64_int (x y : Int) (w : World) (h1 : 0 ≤ x) (h2 : x < 18446744073709551616) (h3 : 0 ≤ y) (h4 : y < 18446744073709551616) :
    Calls Tryd.prog 41 #[.int .u64 x, .int .u64 y] w fun e w' => e = .returned (.tuple #[.int .u64 (hi64 (x * y)), .int .u64 (lo64 (x * y))]) ∧ w = w' := by
  obtain ⟨x, rfl⟩ := Int.eq_ofNat_of_zero_le h1
  obtain ⟨y, rfl⟩ := Int.eq_ofNat_of_zero_le h3
  refine (Tryd.bits_Mul64 x y (by omega) (by omega) w).mono fun e w' ⟨he, hw⟩ => ⟨?_, hw.symm⟩
  rw [he]
  unfold hi64 lo64
  rw [← Int.natCast_mul]
  generalize x * y = p
  congr 5
set_option maxHeartbeats 2000000 in
theorem agrees_below (a b : Wt) (w : World) : Calls Tryd.prog 25 #[.agg #[.int .i64 a.m, .int .i64 a.x, .int .i64 a.y, .int .i64 a.z, .int .i64 a.v], .agg #[.int .i64 b.m, .int .i64 b.x, .int .i64 b.y, .int .i64 b.z, .int .i64 b.v]] w fun e w' =>
    e = .returned (.bool (agrB a b)) ∧ Below w.heap.size w w' := by
  cases h : a.okB
  · have he := chk_no h
    have E : Hid (agrB a b = false) := by unfold Hid agrB; rw [h]; rfl
    clear h
    go_enter Tryd.func25, Tryd.ntmps25
    go_wp2_with (go_at_call 13; refine (check_at _ _ _ _ _ _).mono ?_; rintro e w' ⟨rfl, rfl⟩)
    go_ret
    exact ⟨ret_bool E.out.symm, by go_grown⟩
  have he := chk_yes h
  cases h2 : b.okB
  · have he2 := chk_no h2
    have E : Hid (agrB a b = false) := by unfold Hid agrB; rw [h, h2]; rfl
    clear h
    go_enter Tryd.func25, Tryd.ntmps25
    go_wp2_with (go_at_call 13; refine (check_at _ _ _ _ _ _).mono ?_; rintro e w' ⟨rfl, rfl⟩)
    go_ret
    exact ⟨ret_bool E.out.symm, by go_grown⟩
  have he2 := chk_yes h2
  have h' := (okW_iff _ _ _ _ _).1 h
  have h2' := (okW_iff _ _ _ _ _).1 h2
  have E : Hid (agrB a b = decide (sqd a b ≤ 9000000 * (a.v + b.v))) := by unfold Hid agrB; rw [h, h2]; rfl
  obtain ⟨m1, m2⟩ := h'.1; obtain ⟨m3, m4⟩ := h2'.1
  obtain ⟨v1, v2⟩ := h'.2.1; obtain ⟨v3, v4⟩ := h2'.2.1
  clear h h2 h' h2'
  have hsq : sqd a b = (b.m - a.m) * (b.m - a.m) := by unfold sqd; rw [← Int.neg_sub b.m a.m, Int.neg_mul_neg]
  have hsq1 : sqd a b = (a.m - b.m) * (a.m - b.m) := rfl
  have M1 := Lib.hid (fun W (h : 0 ≤ a.m - b.m) => mul64_int (a.m - b.m) (a.m - b.m) W h (by omega) h (by omega))
  have M2 := Lib.hid (fun W (h : 0 ≤ b.m - a.m) => mul64_int (b.m - a.m) (b.m - a.m) W h (by omega) h (by omega))
  have M3 := Lib.hid (fun W => mul64_int 9000000 (a.v + b.v) W (by omega) (by omega) (by omega) (by omega))
  rw [← hsq] at M2
  rw [← hsq1] at M1
  have HT := Lib.hid (two_wordsI (sqd a b) (9000000 * (a.v + b.v)))
  clear hsq hsq1
  generalize sqd a b = p at *
  generalize hq : 9000000 * (a.v + b.v) = q at *
  clear hq
  generalize hi64 p = ph at *
  generalize lo64 p = pl at *
  generalize hi64 q = qh at *
  generalize lo64 q = ql at *
  rcases Int.lt_trichotomy ph qh with g | g | g
  · have E2 : Hid (decide (p ≤ q) = true) := by unfold Hid; rw [decide_eq_true_eq]; exact HT.out.1 (.inl g)
    have g1 : decide (ph < qh) = true := by simpa using g
    clear g
    go_enter Tryd.func25, Tryd.ntmps25
    go_wp2_with (go_at_call 13; refine (check_at _ _ _ _ _ _).mono ?_; rintro e w' ⟨rfl, rfl⟩)
    · refine (M2.out _ (by omega)).mono ?_
      rintro e w' ⟨rfl, rfl⟩
      go_wp2_with fail
      refine (M3.out _).mono ?_
      rintro e w' ⟨rfl, rfl⟩
      go_wp2_with fail
      go_ret
      exact ⟨ret_bool (by rw [E.out, E2.out]), by go_grown⟩
    · refine (M1.out _ (by omega)).mono ?_
      rintro e w' ⟨rfl, rfl⟩
      go_wp2_with fail
      refine (M3.out _).mono ?_
      rintro e w' ⟨rfl, rfl⟩
      go_wp2_with fail
      go_ret
      exact ⟨ret_bool (by rw [E.out, E2.out]), by go_grown⟩
  · by_cases g2 : pl ≤ ql
    · have E2 : Hid (decide (p ≤ q) = true) := by unfold Hid; rw [decide_eq_true_eq]; exact HT.out.1 (.inr ⟨g, g2⟩)
      have g1 : decide (ph < qh) = false := by simp; omega
      have g3 : (ph == qh) = true := by simpa using g
      clear g
      go_enter Tryd.func25, Tryd.ntmps25
      go_wp2_with (go_at_call 13; refine (check_at _ _ _ _ _ _).mono ?_; rintro e w' ⟨rfl, rfl⟩)
      · refine (M2.out _ (by omega)).mono ?_
        rintro e w' ⟨rfl, rfl⟩
        go_wp2_with fail
        refine (M3.out _).mono ?_
        rintro e w' ⟨rfl, rfl⟩
        go_wp2_with fail
        go_ret
        exact ⟨ret_bool (by rw [E.out, E2.out]), by go_grown⟩
      · refine (M1.out _ (by omega)).mono ?_
        rintro e w' ⟨rfl, rfl⟩
        go_wp2_with fail
        refine (M3.out _).mono ?_
        rintro e w' ⟨rfl, rfl⟩
        go_wp2_with fail
        go_ret
        exact ⟨ret_bool (by rw [E.out, E2.out]), by go_grown⟩
    · have E2 : Hid (decide (p ≤ q) = false) := by unfold Hid; rw [decide_eq_false_iff_not]; intro h; rcases HT.out.2 h with h | h <;> omega
      have g1 : decide (ph < qh) = false := by simp; omega
      have g3 : (ph == qh) = true := by simpa using g
      have g4 : decide (pl ≤ ql) = false := by simpa using g2
      clear g g2
      go_enter Tryd.func25, Tryd.ntmps25
      go_wp2_with (go_at_call 13; refine (check_at _ _ _ _ _ _).mono ?_; rintro e w' ⟨rfl, rfl⟩)
      · refine (M2.out _ (by omega)).mono ?_
        rintro e w' ⟨rfl, rfl⟩
        go_wp2_with fail
        refine (M3.out _).mono ?_
        rintro e w' ⟨rfl, rfl⟩
        go_wp2_with fail
        go_ret
        exact ⟨ret_bool (by rw [E.out, E2.out]), by go_grown⟩
      · refine (M1.out _ (by omega)).mono ?_
        rintro e w' ⟨rfl, rfl⟩
        go_wp2_with fail
        refine (M3.out _).mono ?_
        rintro e w' ⟨rfl, rfl⟩
        go_wp2_with fail
        go_ret
        exact ⟨ret_bool (by rw [E.out, E2.out]), by go_grown⟩
  · have E2 : Hid (decide (p ≤ q) = false) := by unfold Hid; rw [decide_eq_false_iff_not]; intro h; rcases HT.out.2 h with h | h <;> omega
    have g1 : decide (ph < qh) = false := by simp; omega
    have g3 : (ph == qh) = false := by rw [beq_eq_false_iff_ne]; omega
    clear g
    go_enter Tryd.func25, Tryd.ntmps25
    go_wp2_with (go_at_call 13; refine (check_at _ _ _ _ _ _).mono ?_; rintro e w' ⟨rfl, rfl⟩)
    · refine (M2.out _ (by omega)).mono ?_
      rintro e w' ⟨rfl, rfl⟩
      go_wp2_with fail
      refine (M3.out _).mono ?_
      rintro e w' ⟨rfl, rfl⟩
      go_wp2_with fail
      go_ret
      exact ⟨ret_bool (by rw [E.out, E2.out]), by go_grown⟩
    · refine (M1.out _ (by omega)).mono ?_
      rintro e w' ⟨rfl, rfl⟩
      go_wp2_with fail
      refine (M3.out _).mono ?_
      rintro e w' ⟨rfl, rfl⟩
      go_wp2_with fail
      go_ret
      exact ⟨ret_bool (by rw [E.out, E2.out]), by go_grown⟩
end Go.Proofs.YtfgeocpooimojaaDoor
