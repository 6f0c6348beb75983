/-
  What divisible, Rounded, Sigma, Margin, Weighed of package weight return. Conditions: as each theorem states them. What Weighed and Rounded of package weight return. Conditions: as each theorem states them. What Rounded of package weight returns. Conditions: as each theorem states them.
-/
import Derived.Test.YtfgeocpooimojaaDoorQPfWeightCentres15
import Derived.Test.YtfgeocpooimojaaDoorQPfWeightCentres08
namespace Go.Proofs.YtfgeocpooimojaaDoor
open Go Go.RowKit

/-- The error of a quotient. -/
def divE (a : Wt) : Int := if a.okB then (if a.m = 0 then 22 else 0) else 9
theorem chk_no {a : Wt} (h : a.okB = false) : chkE a.m a.x a.y a.z a.v = 9 := by unfold chkE; exact if_neg (by rw [show okW a.m a.x a.y a.z a.v = false from h]; simp)
theorem chk_yes {a : Wt} (h : a.okB = true) : chkE a.m a.x a.y a.z a.v = 0 := by unfold chkE; exact if_pos h
abbrev wtO (a : Wt) : Obj := .cells #[.int .i64 a.m, .int .i64 a.x, .int .i64 a.y, .int .i64 a.z, .int .i64 a.v] 23
theorem divisible_at (a : Wt) (w : World) : Calls Tryd.prog 32 #[.agg #[.int .i64 a.m, .int .i64 a.x, .int .i64 a.y, .int .i64 a.z, .int .i64 a.v]] w fun e w' => e = .returned (.int .i64 (divE a)) ∧ (w.alloc (wtO a)).alloc (wtO a) = w' := by
  cases h : a.okB
  · have he := chk_no h
    have E : Hid (divE a = 9) := by unfold Hid divE; rw [h]; rfl
    clear h
    go_enter Tryd.func32, Tryd.ntmps32
    go_wp2_with (go_at_call 13; refine (check_at _ _ _ _ _ _).mono ?_; rintro e w' ⟨rfl, rfl⟩)
    go_ret
    exact ⟨ret_int E.out.symm, rfl⟩
  · have he := chk_yes h
    by_cases h0 : a.m = 0
    · have E : Hid (divE a = 22) := by unfold Hid divE; rw [h, if_pos h0]; rfl
      have g : (a.m == 0) = true := by simpa using h0
      clear h h0
      go_enter Tryd.func32, Tryd.ntmps32
      go_wp2_with (go_at_call 13; refine (check_at _ _ _ _ _ _).mono ?_; rintro e w' ⟨rfl, rfl⟩)
      go_ret
      exact ⟨ret_int E.out.symm, rfl⟩
    · have E : Hid (divE a = 0) := by unfold Hid divE; rw [h, if_neg h0]; rfl
      have g : (a.m == 0) = false := by simpa using h0
      clear h h0
      go_enter Tryd.func32, Tryd.ntmps32
      go_wp2_with (go_at_call 13; refine (check_at _ _ _ _ _ _).mono ?_; rintro e w' ⟨rfl, rfl⟩)
      go_ret
      exact ⟨ret_int E.out.symm, rfl⟩

def sigmaOf (a : Wt) : Int := if a.okB then rootOf a.v else 0
theorem sigma_at (a : Wt) (w : World) : Calls Tryd.prog 19 #[.agg #[.int .i64 a.m, .int .i64 a.x, .int .i64 a.y, .int .i64 a.z, .int .i64 a.v]] w fun e w' => e = .returned (.int .i64 (sigmaOf a)) ∧ (w.alloc (wtO a)).alloc (wtO a) = w' := by
  cases h : a.okB
  · have he := chk_no h
    have E : Hid (sigmaOf a = 0) := by unfold Hid sigmaOf; exact if_neg (by rw [h]; exact Bool.false_ne_true)
    clear h
    go_enter Tryd.func19, Tryd.ntmps19
    go_wp2_with (go_at_call 13; refine (check_at _ _ _ _ _ _).mono ?_; rintro e w' ⟨rfl, rfl⟩)
    go_ret
    exact ⟨ret_int E.out.symm, rfl⟩
  · have he := chk_yes h
    have E : Hid (sigmaOf a = rootOf a.v) := by unfold Hid sigmaOf; exact if_pos h
    have h' := (okW_iff _ _ _ _ _).1 h
    have hv1 : 0 ≤ a.v := by omega
    have hv2 : a.v ≤ 9223372036854775807 := by omega
    clear h h'
    go_enter Tryd.func19, Tryd.ntmps19
    go_wp2_with (first | (go_at_call 13; refine (check_at _ _ _ _ _ _).mono ?_; rintro e w' ⟨rfl, rfl⟩) | (go_at_call 38; refine (numRoot_any _ hv1 hv2 _).mono ?_; rintro e w' ⟨rfl, rfl⟩))
    go_ret
    exact ⟨ret_int E.out.symm, rfl⟩

theorem rootTo_lt (n : Nat) : rootTo n 32 < 4294967296 := by
  obtain ⟨m, e, hb⟩ := rootTo_form n 32 (by omega)
  omega
theorem rootOf_bd (n : Int) : 0 ≤ rootOf n ∧ rootOf n ≤ 4294967295 := by
  unfold rootOf
  split
  · omega
  · have := rootTo_lt n.toNat
    generalize rootTo n.toNat 32 = r at *
    omega
theorem sigma_bd (a : Wt) : 0 ≤ sigmaOf a ∧ sigmaOf a ≤ 4294967295 := by
  unfold sigmaOf
  split
  · exact rootOf_bd _
  · omega
def marginOf (a : Wt) (n : Int) : Int := if a.okB && btwB n 0 10 then a.m + 1000 * n * sigmaOf a else 0
theorem mul_bd (n s : Int) (h1 : 0 ≤ n) (h2 : n ≤ 10) (h3 : 0 ≤ s) (h4 : s ≤ 4294967295) : 0 ≤ 1000 * n * s ∧ 1000 * n * s ≤ 42949672950000 := by
  have e1 : 0 ≤ 1000 * n * s := Int.mul_nonneg (by omega) h3
  have e2 : 1000 * n * s ≤ 10000 * s := Int.mul_le_mul_of_nonneg_right (by omega) h3
  omega
theorem sigma_below (a : Wt) (w : World) : Calls Tryd.prog 19 #[.agg #[.int .i64 a.m, .int .i64 a.x, .int .i64 a.y, .int .i64 a.z, .int .i64 a.v]] w fun e w' => e = .returned (.int .i64 (sigmaOf a)) ∧ Below w.heap.size w w' :=
  (sigma_at a w).mono fun _ _ ⟨he, hw⟩ => ⟨he, by rw [← hw]; go_grown⟩
theorem divisible_below (a : Wt) (w : World) : Calls Tryd.prog 32 #[.agg #[.int .i64 a.m, .int .i64 a.x, .int .i64 a.y, .int .i64 a.z, .int .i64 a.v]] w fun e w' => e = .returned (.int .i64 (divE a)) ∧ Below w.heap.size w w' :=
  (divisible_at a w).mono fun _ _ ⟨he, hw⟩ => ⟨he, by rw [← hw]; go_grown⟩
theorem margin_below (a : Wt) (n : Int) (w : World) : Calls Tryd.prog 21 #[.agg #[.int .i64 a.m, .int .i64 a.x, .int .i64 a.y, .int .i64 a.z, .int .i64 a.v], .int .i64 n] w fun e w' => e = .returned (.int .i64 (marginOf a n)) ∧ Below w.heap.size w w' := by
  cases h : a.okB
  · have he := chk_no h
    have E : Hid (marginOf a n = 0) := by unfold Hid marginOf; exact if_neg (by rw [h]; exact Bool.false_ne_true)
    clear h
    go_enter Tryd.func21, Tryd.ntmps21
    go_wp2_with (go_at_call 13; refine (check_at _ _ _ _ _ _).mono ?_; rintro e w' ⟨rfl, rfl⟩)
    go_ret
    exact ⟨ret_int E.out.symm, by go_grown⟩
  · have he := chk_yes h
    cases h2 : btwB n 0 10
    · have E : Hid (marginOf a n = 0) := by unfold Hid marginOf; exact if_neg (by rw [h, h2]; exact Bool.false_ne_true)
      clear h
      go_enter Tryd.func21, Tryd.ntmps21
      go_wp2_with (first | (go_at_call 13; refine (check_at _ _ _ _ _ _).mono ?_; rintro e w' ⟨rfl, rfl⟩) | (go_at_call 31; refine (between_any _ _ _ _).mono ?_; rintro e w' ⟨rfl, rfl⟩))
      go_ret
      exact ⟨ret_int E.out.symm, by go_grown⟩
    · have E : Hid (marginOf a n = a.m + 1000 * n * sigmaOf a) := by unfold Hid marginOf; exact if_pos (by rw [h, h2]; rfl)
      have h' := (okW_iff _ _ _ _ _).1 h
      have hn : 0 ≤ n ∧ n ≤ 10 := by simpa [btwB] using h2
      obtain ⟨hm1, hm2⟩ := h'.1
      obtain ⟨hn1, hn2⟩ := hn
      obtain ⟨hs1, hs2⟩ := sigma_bd a
      obtain ⟨hp1, hp2⟩ := mul_bd n _ hn1 hn2 hs1 hs2
      have q1 : IntKind.i64.wrap (1000 * n) = 1000 * n := IntWalk.i64_in _ ⟨by omega, by omega⟩
      have q2 : IntKind.i64.wrap (1000 * n * sigmaOf a) = 1000 * n * sigmaOf a := IntWalk.i64_in _ ⟨by omega, by omega⟩
      have q3 : IntKind.i64.wrap (a.m + 1000 * n * sigmaOf a) = a.m + 1000 * n * sigmaOf a := IntWalk.i64_in _ ⟨by omega, by omega⟩
      clear h h'
      go_enter Tryd.func21, Tryd.ntmps21
      go_wp2_with (first | (go_at_call 13; refine (check_at _ _ _ _ _ _).mono ?_; rintro e w' ⟨rfl, rfl⟩) | (go_at_call 31; refine (between_any _ _ _ _).mono ?_; rintro e w' ⟨rfl, rfl⟩))
      obtain ⟨W, hW⟩ : ∃ W, W = (w.alloc (wtO a)).alloc (wtO a) := ⟨_, rfl⟩
      have hlt : w.heap.size < W.heap.size := by rw [hW]; simp; omega
      have c0 : W.cell? ⟨w.heap.size, 0, none⟩ = some (.int .i64 a.m) := by rw [hW]; simp
      have c1 : W.cell? ⟨w.heap.size, 1, none⟩ = some (.int .i64 a.x) := by rw [hW]; simp
      have c2 : W.cell? ⟨w.heap.size, 2, none⟩ = some (.int .i64 a.y) := by rw [hW]; simp
      have c3 : W.cell? ⟨w.heap.size, 3, none⟩ = some (.int .i64 a.z) := by rw [hW]; simp
      have c4 : W.cell? ⟨w.heap.size, 4, none⟩ = some (.int .i64 a.v) := by rw [hW]; simp
      have Hb : Hid (Below w.heap.size w W) := by unfold Hid; rw [hW]; go_grown
      rw [← hW]
      clear hW
      have lc := @later_cell W
      refine wp_region_later (by kernel_rfl) (by kernel_rfl) ?_
      repeat (go_big_quiet_step ((go_at_call 19; exact later_call (sigma_below _ _))))
      refine wpQuiet_nil ?_
      intro _ hw'
      obtain ⟨u, rfl⟩ := hw'
      have Hb2 := Lib.hid (Hb.out.trans (u.property.mono Hb.out.size))
      generalize u.val = w2 at *
      go_wp2_with fail
      go_ret
      exact ⟨ret_int E.out.symm, Hb2.out⟩
end Go.Proofs.YtfgeocpooimojaaDoor
namespace Go.Proofs.YtfgeocpooimojaaDoor
open Go Go.RowKit

/-- Whether a weighing is valid. -/
def wghB (m x y z s : Int) : Bool := btwB x (-524288) 524288 && btwB y (-524288) 524288 && btwB z (-524288) 524288 && btwB m 1 1099511627776 && btwB s 0 1048576
def wghE (m x y z s : Int) : Int := if wghB m x y z s then 0 else 9
def wghV (m x y z s : Int) : Wt := if wghB m x y z s then ⟨m, m * x, m * y, m * z, s * s⟩ else zeroW
theorem mass_coord (m x : Int) (h1 : 1 ≤ m) (h2 : m ≤ 1099511627776) (h3 : -524288 ≤ x) (h4 : x ≤ 524288) : -576460752303423488 ≤ m * x ∧ m * x ≤ 576460752303423488 := by
  have a : m * x ≤ m * 524288 := Int.mul_le_mul_of_nonneg_left h4 (by omega)
  have b : m * (-524288) ≤ m * x := Int.mul_le_mul_of_nonneg_left h3 (by omega)
  omega
theorem sq_bd (s : Int) (h1 : 0 ≤ s) (h2 : s ≤ 1048576) : 0 ≤ s * s ∧ s * s ≤ 1099511627776 := by
  have a : s * s ≤ s * 1048576 := Int.mul_le_mul_of_nonneg_left h2 h1
  have b : 0 ≤ s * s := Int.mul_nonneg h1 h1
  omega
theorem wgh_no {m x y z s : Int} (h : wghB m x y z s = false) : (wghV m x y z s).val = .agg #[.int .i64 0, .int .i64 0, .int .i64 0, .int .i64 0, .int .i64 0] ∧ wghE m x y z s = 9 := by
  unfold wghV wghE; rw [h]; exact ⟨rfl, rfl⟩
theorem blk_new3 (w : World) (o : Obj) (t : TypeId) (cs : Array Value) (o3 : Obj) : Blk (((w.alloc o).alloc (.cells cs t)).alloc o3) (w.heap.size + 1) t cs := by
  have := (Blk.new (w.alloc o) t cs).alloc o3
  simpa using this
set_option maxHeartbeats 2000000 in
theorem weighed_below (b : ByteArray) (at' m x y z s : Int) (sl : Option Addr) (n c : Nat) (w : World) : Calls Tryd.prog 23 #[.agg #[.string b, .int .i64 at', .int .i64 m, .int .i64 x, .int .i64 y, .int .i64 z, .int .i64 s, .slice sl n c]] w fun e w' =>
    e = .returned (.tuple #[(wghV m x y z s).val, .int .i64 (wghE m x y z s)]) ∧ Below w.heap.size w w' := by
  cases hb : wghB m x y z s
  · have HV := Lib.hid (wgh_no hb)
    unfold wghB at hb
    cases h1 : btwB x (-524288) 524288
    · clear hb
      go_enter Tryd.func23, Tryd.ntmps23
      go_wp2_with (go_at_call 31; refine (between_any _ _ _ _).mono ?_; rintro e w' ⟨rfl, rfl⟩)
      refine bodyPost_ret (results_cell_tmp rfl _ _ (w.heap.size + 1) 23 #[.int .i64 0, .int .i64 0, .int .i64 0, .int .i64 0, .int .i64 0] _ rfl (by with_reducible exact blk_new3 _ _ _ _ _) Tryd.underlying23 rfl (by kernel_rfl)) rfl ⟨by rw [HV.out.1, HV.out.2]; rfl, by go_grown⟩
    cases h2 : btwB y (-524288) 524288
    · clear hb
      go_enter Tryd.func23, Tryd.ntmps23
      go_wp2_with (go_at_call 31; refine (between_any _ _ _ _).mono ?_; rintro e w' ⟨rfl, rfl⟩)
      refine bodyPost_ret (results_cell_tmp rfl _ _ (w.heap.size + 1) 23 #[.int .i64 0, .int .i64 0, .int .i64 0, .int .i64 0, .int .i64 0] _ rfl (by with_reducible exact blk_new3 _ _ _ _ _) Tryd.underlying23 rfl (by kernel_rfl)) rfl ⟨by rw [HV.out.1, HV.out.2]; rfl, by go_grown⟩
    cases h3 : btwB z (-524288) 524288
    · clear hb
      go_enter Tryd.func23, Tryd.ntmps23
      go_wp2_with (go_at_call 31; refine (between_any _ _ _ _).mono ?_; rintro e w' ⟨rfl, rfl⟩)
      refine bodyPost_ret (results_cell_tmp rfl _ _ (w.heap.size + 1) 23 #[.int .i64 0, .int .i64 0, .int .i64 0, .int .i64 0, .int .i64 0] _ rfl (by with_reducible exact blk_new3 _ _ _ _ _) Tryd.underlying23 rfl (by kernel_rfl)) rfl ⟨by rw [HV.out.1, HV.out.2]; rfl, by go_grown⟩
    cases h4 : btwB m 1 1099511627776
    · clear hb
      go_enter Tryd.func23, Tryd.ntmps23
      go_wp2_with (go_at_call 31; refine (between_any _ _ _ _).mono ?_; rintro e w' ⟨rfl, rfl⟩)
      refine bodyPost_ret (results_cell_tmp rfl _ _ (w.heap.size + 1) 23 #[.int .i64 0, .int .i64 0, .int .i64 0, .int .i64 0, .int .i64 0] _ rfl (by with_reducible exact blk_new3 _ _ _ _ _) Tryd.underlying23 rfl (by kernel_rfl)) rfl ⟨by rw [HV.out.1, HV.out.2]; rfl, by go_grown⟩
    cases h5 : btwB s 0 1048576
    · clear hb
      go_enter Tryd.func23, Tryd.ntmps23
      go_wp2_with (go_at_call 31; refine (between_any _ _ _ _).mono ?_; rintro e w' ⟨rfl, rfl⟩)
      refine bodyPost_ret (results_cell_tmp rfl _ _ (w.heap.size + 1) 23 #[.int .i64 0, .int .i64 0, .int .i64 0, .int .i64 0, .int .i64 0] _ rfl (by with_reducible exact blk_new3 _ _ _ _ _) Tryd.underlying23 rfl (by kernel_rfl)) rfl ⟨by rw [HV.out.1, HV.out.2]; rfl, by go_grown⟩
    · rw [h1, h2, h3, h4, h5] at hb
      simp at hb
  · have HV : Hid ((wghV m x y z s).val = .agg #[.int .i64 m, .int .i64 (m * x), .int .i64 (m * y), .int .i64 (m * z), .int .i64 (s * s)] ∧ wghE m x y z s = 0) := by
      unfold Hid wghV wghE; rw [hb]; exact ⟨rfl, rfl⟩
    unfold wghB at hb
    simp only [Bool.and_eq_true] at hb
    obtain ⟨⟨⟨⟨h1, h2⟩, h3⟩, h4⟩, h5⟩ := hb
    have g1 : -524288 ≤ x ∧ x ≤ 524288 := by simpa [btwB] using h1
    have g2 : -524288 ≤ y ∧ y ≤ 524288 := by simpa [btwB] using h2
    have g3 : -524288 ≤ z ∧ z ≤ 524288 := by simpa [btwB] using h3
    have g4 : 1 ≤ m ∧ m ≤ 1099511627776 := by simpa [btwB] using h4
    have g5 : 0 ≤ s ∧ s ≤ 1048576 := by simpa [btwB] using h5
    obtain ⟨p1, p2⟩ := mass_coord m x g4.1 g4.2 g1.1 g1.2
    obtain ⟨p3, p4⟩ := mass_coord m y g4.1 g4.2 g2.1 g2.2
    obtain ⟨p5, p6⟩ := mass_coord m z g4.1 g4.2 g3.1 g3.2
    obtain ⟨p7, p8⟩ := sq_bd s g5.1 g5.2
    clear g1 g2 g3 g4 g5
    go_enter Tryd.func23, Tryd.ntmps23
    go_wp2_with (go_at_call 31; refine (between_any _ _ _ _).mono ?_; rintro e w' ⟨rfl, rfl⟩)
    refine bodyPost_ret (results_cell_tmp rfl _ _ (w.heap.size + 1) 23 #[.int .i64 m, .int .i64 (m * x), .int .i64 (m * y), .int .i64 (m * z), .int .i64 (s * s)] _ rfl (by with_reducible exact blk_new3 _ _ _ _ _) Tryd.underlying23 rfl (by kernel_rfl)) rfl ⟨by rw [HV.out.1, HV.out.2]; rfl, by go_grown⟩
end Go.Proofs.YtfgeocpooimojaaDoor
namespace Go.Proofs.YtfgeocpooimojaaDoor
open Go Go.RowKit

abbrev vecV (x y z : Int) : Value := .agg #[.int .i64 x, .int .i64 y, .int .i64 z]
def rndX (a : Wt) : Int := if divE a = 0 then rnd a.x a.m else 0
def rndY (a : Wt) : Int := if divE a = 0 then rnd a.y a.m else 0
def rndZ (a : Wt) : Int := if divE a = 0 then rnd a.z a.m else 0
theorem divE_zero {a : Wt} (h : divE a = 0) : (1 ≤ a.m ∧ a.m ≤ 1099511627776) ∧ (-1152921504606846976 ≤ a.x ∧ a.x ≤ 1152921504606846976) ∧ (-1152921504606846976 ≤ a.y ∧ a.y ≤ 1152921504606846976) ∧ (-1152921504606846976 ≤ a.z ∧ a.z ≤ 1152921504606846976) := by
  unfold divE at h
  cases hk : a.okB
  · rw [hk] at h; simp at h
  · rw [hk] at h
    have := (okW_iff _ _ _ _ _).1 hk
    by_cases h0 : a.m = 0
    · simp [h0] at h
    · omega
theorem divE_cases (a : Wt) : divE a = 0 ∨ divE a = 9 ∨ divE a = 22 := by
  unfold divE; split
  · split <;> simp
  · simp
theorem blk_rnd {w : World} {g : Nat} {t : TypeId} {a b c : Value} (h : Blk w g t #[a, b, c]) (n1 n2 n3 : Nat) (x y z : Value) :
    Blk (((((((((w.drewN n1).setCell ⟨g, 0, none⟩ x).drewN n2).setCell ⟨g, 1, none⟩ y).drewN n3).setCell ⟨g, 2, none⟩ z).setCell ⟨g, 0, none⟩ x).setCell ⟨g, 1, none⟩ y).setCell ⟨g, 2, none⟩ z) g t #[x, y, z] :=
  ((((((((h.drewN n1).set_ 0 x).drewN n2).set_ 1 y).drewN n3).set_ 2 z).set_ 0 x).set_ 1 y).set_ 2 z
theorem below_drewN' {B : Nat} {a w : World} (h : Below B a w) (n : Nat) : Below B a (w.drewN n) := ⟨h.os, h.tape, h.output, h.size, h.block⟩
theorem below_rnd {B g : Nat} {a w : World} (hg : B ≤ g) (h : Below B a w) (n1 n2 n3 : Nat) (x y z : Value) :
    Below B a (((((((((w.drewN n1).setCell ⟨g, 0, none⟩ x).drewN n2).setCell ⟨g, 1, none⟩ y).drewN n3).setCell ⟨g, 2, none⟩ z).setCell ⟨g, 0, none⟩ x).setCell ⟨g, 1, none⟩ y).setCell ⟨g, 2, none⟩ z) :=
  ((((below_drewN' ((below_drewN' ((below_drewN' h n1).setCell hg x) n2).setCell hg y) n3).setCell hg z).setCell hg x).setCell hg y).setCell hg z
set_option maxHeartbeats 2000000 in
theorem rounded_below (a : Wt) (w : World) : Calls Tryd.prog 17 #[.agg #[.int .i64 a.m, .int .i64 a.x, .int .i64 a.y, .int .i64 a.z, .int .i64 a.v]] w fun e w' =>
    e = .returned (.tuple #[vecV (rndX a) (rndY a) (rndZ a), .int .i64 (divE a)]) ∧ Below w.heap.size w w' := by
  by_cases hd : divE a = 0
  · have h := divE_zero hd
    have HV : Hid (vecV (rndX a) (rndY a) (rndZ a) = vecV (rnd a.x a.m) (rnd a.y a.m) (rnd a.z a.m)) := by unfold Hid rndX rndY rndZ; rw [if_pos hd, if_pos hd, if_pos hd]
    obtain ⟨⟨h1, h2⟩, ⟨h3, h4⟩, ⟨h5, h6⟩, ⟨h7, h8⟩⟩ := h
    have r1 := fun W => numRound_any a.x a.m (by omega) (by omega) h1 (by omega) W
    have r2 := fun W => numRound_any a.y a.m (by omega) (by omega) h1 (by omega) W
    have r3 := fun W => numRound_any a.z a.m (by omega) (by omega) h1 (by omega) W
    have R1 := Lib.hid r1; have R2 := Lib.hid r2; have R3 := Lib.hid r3; clear r1 r2 r3
    have HD := Lib.hid hd
    go_enter Tryd.func17, Tryd.ntmps17
    go_wp2_with (go_at_call 32; refine (divisible_at _ _).mono ?_; rintro e w' ⟨rfl, rfl⟩)
    refine (R1.out _).mono ?_
    rintro e w' ⟨rfl, n1, rfl⟩
    go_wp2_with fail
    refine (R2.out _).mono ?_
    rintro e w' ⟨rfl, n2, rfl⟩
    go_wp2_with fail
    refine (R3.out _).mono ?_
    rintro e w' ⟨rfl, n3, rfl⟩
    go_wp2_with fail
    refine bodyPost_ret (results_cell_tmp rfl _ _ (w.heap.size + 1) 41 #[.int .i64 (rnd a.x a.m), .int .i64 (rnd a.y a.m), .int .i64 (rnd a.z a.m)] _ rfl (by with_reducible exact blk_rnd ((blk_new3 _ _ _ _ _).alloc _) _ _ _ _ _ _) Tryd.underlying41 rfl (by kernel_rfl)) rfl ⟨by rw [HV.out, HD.out]; rfl, ?_⟩
    exact below_rnd (by simp) (by go_grown) _ _ _ _ _ _
  · have HV : Hid (vecV (rndX a) (rndY a) (rndZ a) = vecV 0 0 0) := by unfold Hid rndX rndY rndZ; rw [if_neg hd, if_neg hd, if_neg hd]
    have g : (divE a != 0) = true := by simpa using hd
    clear hd
    go_enter Tryd.func17, Tryd.ntmps17
    go_wp2_with (go_at_call 32; refine (divisible_at _ _).mono ?_; rintro e w' ⟨rfl, rfl⟩)
    refine bodyPost_ret (results_cell_tmp rfl _ _ (w.heap.size + 1) 41 #[.int .i64 0, .int .i64 0, .int .i64 0] _ rfl (by with_reducible exact (blk_new3 _ _ _ _ _).alloc _) Tryd.underlying41 rfl (by kernel_rfl)) rfl ⟨by rw [HV.out]; rfl, by go_grown⟩
end Go.Proofs.YtfgeocpooimojaaDoor
