/-
  What Rounded of package weight returns. Conditions: as each theorem states them.
-/
import Derived.Test.YtfgeocpooimojaaDoorWrestb
namespace Go.Proofs.YtfgeocpooimojaaDoor
open Go Go.RowKit

abbrev vecV (x y z : Int) : Value := .agg #[.int .i64 x, .int .i64 y, .int .i64 z]
def rndX (a : Wt) : Int := if divE a = 0 then rnd a.x a.m else 0
def rndY (a : Wt) : Int := if divE a = 0 then rnd a.y a.m else 0
def rndZ (a : Wt) : Int := if divE a = 0 then rnd a.z a.m else 0
theorem divE_zero {a : Wt} (h : divE a = 0) : (1 ≤ a.m ∧ a.m ≤ 1099511627776) ∧ (-1152921504606846976 ≤ a.x ∧ a.x ≤ 1152921504606846976) ∧ (-1152921504606846976 ≤ a.y ∧ a.y ≤ 1152921504606846976) ∧ (-1152921504606846976 ≤ a.z ∧ a.z ≤ 1152921504606846976) := by
  unfold divE at h
  cases hk : a.okB
  · rw [hk] at h; simp at h
  · rw [hk] at h
    have := (okW_iff _ _ _ _ _).1 hk
    by_cases h0 : a.m = 0
    · simp [h0] at h
    · omega
theorem divE_cases (a : Wt) : divE a = 0 ∨ divE a = 9 ∨ divE a = 22 := by
  unfold divE; split
  · split <;> simp
  · simp
theorem blk_rnd {w : World} {g : Nat} {t : TypeId} {a b c : Value} (h : Blk w g t #[a, b, c]) (n1 n2 n3 : Nat) (x y z : Value) :
    Blk (((((((((w.drewN n1).setCell ⟨g, 0, none⟩ x).drewN n2).setCell ⟨g, 1, none⟩ y).drewN n3).setCell ⟨g, 2, none⟩ z).setCell ⟨g, 0, none⟩ x).setCell ⟨g, 1, none⟩ y).setCell ⟨g, 2, none⟩ z) g t #[x, y, z] :=
  ((((((((h.drewN n1).set_ 0 x).drewN n2).set_ 1 y).drewN n3).set_ 2 z).set_ 0 x).set_ 1 y).set_ 2 z
theorem below_drewN' {B : Nat} {a w : World} (h : Below B a w) (n : Nat) : Below B a (w.drewN n) := ⟨h.os, h.tape, h.output, h.size, h.block⟩
theorem below_rnd {B g : Nat} {a w : World} (hg : B ≤ g) (h : Below B a w) (n1 n2 n3 : Nat) (x y z : Value) :
    Below B a (((((((((w.drewN n1).setCell ⟨g, 0, none⟩ x).drewN n2).setCell ⟨g, 1, none⟩ y).drewN n3).setCell ⟨g, 2, none⟩ z).setCell ⟨g, 0, none⟩ x).setCell ⟨g, 1, none⟩ y).setCell ⟨g, 2, none⟩ z) :=
  ((((below_drewN' ((below_drewN' ((below_drewN' h n1).setCell hg x) n2).setCell hg y) n3).setCell hg z).setCell hg x).setCell hg y).setCell hg z
set_option maxHeartbeats 2000000 in
theorem rounded_below (a : Wt) (w : World) : Calls Tryd.prog 17 #[.agg #[.int .i64 a.m, .int .i64 a.x, .int .i64 a.y, .int .i64 a.z, .int .i64 a.v]] w fun e w' =>
    e = .returned (.tuple #[vecV (rndX a) (rndY a) (rndZ a), .int .i64 (divE a)]) ∧ Below w.heap.size w w' := by
  by_cases hd : divE a = 0
  · have h := divE_zero hd
    have HV : Hid (vecV (rndX a) (rndY a) (rndZ a) = vecV (rnd a.x a.m) (rnd a.y a.m) (rnd a.z a.m)) := by unfold Hid rndX rndY rndZ; rw [if_pos hd, if_pos hd, if_pos hd]
    obtain ⟨⟨h1, h2⟩, ⟨h3, h4⟩, ⟨h5, h6⟩, ⟨h7, h8⟩⟩ := h
    have r1 := fun W => numRound_any a.x a.m (by omega) (by omega) h1 (by omega) W
    have r2 := fun W => numRound_any a.y a.m (by omega) (by omega) h1 (by omega) W
    have r3 := fun W => numRound_any a.z a.m (by omega) (by omega) h1 (by omega) W
    have R1 := Lib.hid r1; have R2 := Lib.hid r2; have R3 := Lib.hid r3; clear r1 r2 r3
    have HD := Lib.hid hd
    go_enter Tryd.func17, Tryd.ntmps17
    go_wp2_with (go_at_call 32; refine (divisible_at _ _).mono ?_; rintro e w' ⟨rfl, rfl⟩)
    refine (R1.out _).mono ?_
    rintro e w' ⟨rfl, n1, rfl⟩
    go_wp2_with fail
    refine (R2.out _).mono ?_
    rintro e w' ⟨rfl, n2, rfl⟩
    go_wp2_with fail
    refine (R3.out _).mono ?_
    rintro e w' ⟨rfl, n3, rfl⟩
    go_wp2_with fail
    refine bodyPost_ret (results_cell_tmp rfl _ _ (w.heap.size + 1) 41 #[.int .i64 (rnd a.x a.m), .int .i64 (rnd a.y a.m), .int .i64 (rnd a.z a.m)] _ rfl (by with_reducible exact blk_rnd ((blk_new3 _ _ _ _ _).alloc _) _ _ _ _ _ _) Tryd.underlying41 rfl (by kernel_rfl)) rfl ⟨by rw [HV.out, HD.out]; rfl, ?_⟩
    exact below_rnd (by simp) (by go_grown) _ _ _ _ _ _
  · have HV : Hid (vecV (rndX a) (rndY a) (rndZ a) = vecV 0 0 0) := by unfold Hid rndX rndY rndZ; rw [if_neg hd, if_neg hd, if_neg hd]
    have g : (divE a != 0) = true := by simpa using hd
    clear hd
    go_enter Tryd.func17, Tryd.ntmps17
    go_wp2_with (go_at_call 32; refine (divisible_at _ _).mono ?_; rintro e w' ⟨rfl, rfl⟩)
    refine bodyPost_ret (results_cell_tmp rfl _ _ (w.heap.size + 1) 41 #[.int .i64 0, .int .i64 0, .int .i64 0] _ rfl (by with_reducible exact (blk_new3 _ _ _ _ _).alloc _) Tryd.underlying41 rfl (by kernel_rfl)) rfl ⟨by rw [HV.out]; rfl, by go_grown⟩
end Go.Proofs.YtfgeocpooimojaaDoor
