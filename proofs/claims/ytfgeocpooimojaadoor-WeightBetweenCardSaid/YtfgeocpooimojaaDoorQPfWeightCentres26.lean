/-
  Make and Of of package ratio, of numbers of one word. Conditions: the denominator is positive; the library's table lies in its variable.
-/
import Derived.Test.YtfgeocpooimojaaDoorQPfWeightCentres24
import Derived.Test.YtfgeocpooimojaaDoorQPfWeightCentres25
namespace Go.Proofs.YtfgeocpooimojaaDoor
open Go Go.RowKit

theorem wideGcd_at (n : Bool) (x y : Nat) (hx : x < 9223372036854775808) (hy0 : y ≠ 0) (hy : y < 9223372036854775808) (w : World) (hT : Tab w) :
    Calls Tryd.prog 48 #[.agg (wideS n x), .agg (wideS false y)] w fun e w' => e = .returned (.agg (wideS false (Nat.gcd x y))) ∧ Below w.heap.size w w' := by
  by_cases h0 : x = 0
  · subst h0
    rw [Nat.gcd_zero_left]
    exact wideGcd_zero n y (by omega) w
  · exact wideGcd_main n x y h0 hx hy0 hy w hT
abbrev ratS (n : Bool) (p q : Nat) : Array Value := #[.bool n, .int .u64 (p : Nat), .int .u64 0, .int .u64 0, .int .u64 0, .bool false, .int .u64 (q : Nat), .int .u64 0, .int .u64 0, .int .u64 0]
theorem ratS_one (n : Bool) (p q : Nat) : (ratS n p q).all (·.oneCell') = true := by simp [Value.oneCell']
theorem Tryd.infoRat : (Tryd.prog.info? 37).map (fun i => (i.zero, i.size)) = some (some (.agg (ratS false 0 0)), 10) := by kernel_rfl
set_option maxHeartbeats 8000000 in
set_option maxRecDepth 100000 in
theorem ratioMake_at (n : Bool) (x y g p q : Nat) (hn : n = true → x ≠ 0) (hx : x < 9223372036854775808) (hy0 : y ≠ 0) (hy : y < 9223372036854775808) (hg : g = Nat.gcd x y) (hp : x = g * p) (hq : y = g * q) (w : World) (hT : Tab w) :
    Calls Tryd.prog 58 #[.agg (wideS n x), .agg (wideS false y)] w fun e w' => e = .returned (.tuple #[.agg (ratS (sgn n p) p q), .int .i64 0]) ∧ Below w.heap.size w w' := by
  have HB := Lib.hid (blk_start3 w 35 35 37 (wideS n x) (wideS false y) (ratS false 0 0))
  have hg0 : 0 < g := by rw [hg]; exact Nat.gcd_pos_of_pos_right _ (by omega)
  have hgy : g ≤ y := by rw [hg]; exact Nat.gcd_le_right _ (by omega)
  have hq0 : q ≠ 0 := by rintro rfl; rw [Nat.mul_zero] at hq; exact hy0 hq
  have hqy : q ≤ y := by rw [hq]; exact Nat.le_mul_of_pos_left _ hg0
  have C1 : Hid (∀ W, Calls Tryd.prog 46 #[.agg (wideS false y)] W fun e w' => e = .returned (.int .i64 1) ∧ Below W.heap.size W w') := fun W => by
    have := ratioSign_at y (by omega) W
    rw [show cmpN y 0 = 1 by unfold cmpN; rw [if_neg (by omega), if_pos (by omega)]] at this
    exact this
  have C2 := Lib.hid (wideValid_at n x hn)
  have C3 : Hid (∀ W, Tab W → Calls Tryd.prog 48 #[.agg (wideS n x), .agg (wideS false y)] W fun e w' => e = .returned (.agg (wideS false g)) ∧ Below W.heap.size W w') := fun W h => by
    rw [hg]; exact wideGcd_at n x y hx hy0 hy W h
  have C4 := Lib.hid (ratioOver_at n x g p (by omega) (by omega) hg0 hp)
  have C5 : Hid (∀ W, Calls Tryd.prog 81 #[.agg (wideS false y), .agg (wideS false g)] W fun e w' => e = .returned (.agg (wideS false q)) ∧ Below W.heap.size W w') := fun W => ratioOver_at false y g q (by omega) (by omega) hg0 hq W
  have C6 : Hid (∀ W, Calls Tryd.prog 46 #[.agg (wideS false q)] W fun e w' => e = .returned (.int .i64 1) ∧ Below W.heap.size W w') := fun W => by
    have := ratioSign_at q (by omega) W
    rw [show cmpN q 0 = 1 by unfold cmpN; rw [if_neg (by omega), if_pos (by omega)]] at this
    exact this
  have HT := Lib.hid hT
  clear hn hx hy0 hy hg hp hq hT hg0 hgy hq0 hqy
  go_enter Tryd.func58, Tryd.ntmps58
  go_wp2_with fail
  refine (C1.out _).mono ?_
  rintro e w1 ⟨rfl, hb1⟩
  have K2 := Lib.hid (HB.out.1.below hb1 HB.out.1.lt); have K3 := Lib.hid (HB.out.2.1.below hb1 HB.out.2.1.lt); have K4 := Lib.hid (HB.out.2.2.below hb1 HB.out.2.2.lt)
  have Hb1 : Hid (Below w.heap.size w w1) := Lib.hid (Below.trans (by go_grown) (hb1.mono (by simp; omega)))
  clear hb1 HB C1
  have c0 := K2.out.cell 0; have c1 := K2.out.cell 1; have c2 := K2.out.cell 2; have c3 := K2.out.cell 3; have c4 := K2.out.cell 4
  simp at c0 c1 c2 c3 c4
  go_wp2_with fail
  refine (C2.out _).mono ?_
  rintro e w2 ⟨rfl, hb2⟩
  have M2 := Lib.hid (K2.out.below hb2 K2.out.lt); have M3 := Lib.hid (K3.out.below hb2 K3.out.lt); have M4 := Lib.hid (K4.out.below hb2 K4.out.lt)
  have Hb2 := Lib.hid (Hb1.out.trans (hb2.mono Hb1.out.size))
  clear hb2 K2 K3 K4 Hb1 C2 c0 c1 c2 c3 c4
  have c0 := M2.out.cell 0; have c1 := M2.out.cell 1; have c2 := M2.out.cell 2; have c3 := M2.out.cell 3; have c4 := M2.out.cell 4
  have d0 := M3.out.cell 0; have d1 := M3.out.cell 1; have d2 := M3.out.cell 2; have d3 := M3.out.cell 3; have d4 := M3.out.cell 4
  simp at c0 c1 c2 c3 c4 d0 d1 d2 d3 d4
  go_wp2_with fail
  refine (C3.out _ (HT.out.later Hb2.out)).mono ?_
  rintro e w3 ⟨rfl, hb3⟩
  have N2 := Lib.hid ((M2.out.below hb3 M2.out.lt).alloc (.cells (wideS false g) 35)); have N3 := Lib.hid ((M3.out.below hb3 M3.out.lt).alloc (.cells (wideS false g) 35)); have N4 := Lib.hid ((M4.out.below hb3 M4.out.lt).alloc (.cells (wideS false g) 35))
  have N6 := Lib.hid (Blk.new w3 35 (wideS false g))
  have l4 : w.heap.size + 1 + 1 < w3.heap.size := Nat.lt_of_lt_of_le M4.out.lt hb3.size
  have Hb3' := Hb2.out.trans (hb3.mono Hb2.out.size)
  have Hb3 := Lib.hid (Hb3'.alloc Hb3'.size (.cells (wideS false g) 35))
  clear hb3 Hb3' M2 M3 M4 Hb2 C3 c0 c1 c2 c3 c4 d0 d1 d2 d3 d4
  go_wp2_with fail
  generalize w3.alloc (.cells (wideS false g) 35) = W at *
  have hB : w.heap.size ≤ W.heap.size := Hb3.out.size
  have hS0 : Held w.heap.size W [(w3.heap.size, 35, wideS false g)] { W with drawn := W.drawn + 1 } := ⟨(Below.refl _ W).drew, by
    intro x hx
    simp only [List.mem_cons, List.not_mem_nil, or_false] at hx
    subst hx
    exact N6.out⟩
  have hF0 : Held w.heap.size W [(w.heap.size, 35, wideS n x), (w.heap.size + 1, 35, wideS false y)] { W with drawn := W.drawn + 1 } := ⟨(Below.refl _ W).drew, by
    intro x hx
    simp only [List.mem_cons, List.not_mem_nil, or_false] at hx
    rcases hx with rfl | rfl
    · exact N2.out
    · exact N3.out⟩
  have a0 : ∀ w', Held w.heap.size W [(w3.heap.size, 35, wideS false g)] w' ∧ Held w.heap.size W [(w.heap.size, 35, wideS n x), (w.heap.size + 1, 35, wideS false y)] w' → w'.cell? ⟨w.heap.size, 0, none⟩ = some (.bool n) := fun w' h => (h.2.cell (.head _) 0).trans rfl
  have a1 : ∀ w', Held w.heap.size W [(w3.heap.size, 35, wideS false g)] w' ∧ Held w.heap.size W [(w.heap.size, 35, wideS n x), (w.heap.size + 1, 35, wideS false y)] w' → w'.cell? ⟨w.heap.size, 1, none⟩ = some (.int .u64 (x : Nat)) := fun w' h => (h.2.cell (.head _) 1).trans rfl
  have a2 : ∀ w', Held w.heap.size W [(w3.heap.size, 35, wideS false g)] w' ∧ Held w.heap.size W [(w.heap.size, 35, wideS n x), (w.heap.size + 1, 35, wideS false y)] w' → w'.cell? ⟨w.heap.size, 2, none⟩ = some (.int .u64 0) := fun w' h => (h.2.cell (.head _) 2).trans rfl
  have a3 : ∀ w', Held w.heap.size W [(w3.heap.size, 35, wideS false g)] w' ∧ Held w.heap.size W [(w.heap.size, 35, wideS n x), (w.heap.size + 1, 35, wideS false y)] w' → w'.cell? ⟨w.heap.size, 3, none⟩ = some (.int .u64 0) := fun w' h => (h.2.cell (.head _) 3).trans rfl
  have a4 : ∀ w', Held w.heap.size W [(w3.heap.size, 35, wideS false g)] w' ∧ Held w.heap.size W [(w.heap.size, 35, wideS n x), (w.heap.size + 1, 35, wideS false y)] w' → w'.cell? ⟨w.heap.size, 4, none⟩ = some (.int .u64 0) := fun w' h => (h.2.cell (.head _) 4).trans rfl
  have b0 : ∀ w', Held w.heap.size W [(w3.heap.size, 35, wideS false g)] w' ∧ Held w.heap.size W [(w.heap.size, 35, wideS n x), (w.heap.size + 1, 35, wideS false y)] w' → w'.cell? ⟨w.heap.size + 1, 0, none⟩ = some (.bool false) := fun w' h => (h.2.cell (.tail _ (.head _)) 0).trans rfl
  have b1 : ∀ w', Held w.heap.size W [(w3.heap.size, 35, wideS false g)] w' ∧ Held w.heap.size W [(w.heap.size, 35, wideS n x), (w.heap.size + 1, 35, wideS false y)] w' → w'.cell? ⟨w.heap.size + 1, 1, none⟩ = some (.int .u64 (y : Nat)) := fun w' h => (h.2.cell (.tail _ (.head _)) 1).trans rfl
  have b2 : ∀ w', Held w.heap.size W [(w3.heap.size, 35, wideS false g)] w' ∧ Held w.heap.size W [(w.heap.size, 35, wideS n x), (w.heap.size + 1, 35, wideS false y)] w' → w'.cell? ⟨w.heap.size + 1, 2, none⟩ = some (.int .u64 0) := fun w' h => (h.2.cell (.tail _ (.head _)) 2).trans rfl
  have b3 : ∀ w', Held w.heap.size W [(w3.heap.size, 35, wideS false g)] w' ∧ Held w.heap.size W [(w.heap.size, 35, wideS n x), (w.heap.size + 1, 35, wideS false y)] w' → w'.cell? ⟨w.heap.size + 1, 3, none⟩ = some (.int .u64 0) := fun w' h => (h.2.cell (.tail _ (.head _)) 3).trans rfl
  have b4 : ∀ w', Held w.heap.size W [(w3.heap.size, 35, wideS false g)] w' ∧ Held w.heap.size W [(w.heap.size, 35, wideS n x), (w.heap.size + 1, 35, wideS false y)] w' → w'.cell? ⟨w.heap.size + 1, 4, none⟩ = some (.int .u64 0) := fun w' h => (h.2.cell (.tail _ (.head _)) 4).trans rfl
  have c0 : ∀ w', Held w.heap.size W [(w3.heap.size, 35, wideS false g)] w' ∧ Held w.heap.size W [(w.heap.size, 35, wideS n x), (w.heap.size + 1, 35, wideS false y)] w' → w'.cell? ⟨w3.heap.size, 0, none⟩ = some (.bool false) := fun w' h => (h.1.cell (.head _) 0).trans rfl
  have c1 : ∀ w', Held w.heap.size W [(w3.heap.size, 35, wideS false g)] w' ∧ Held w.heap.size W [(w.heap.size, 35, wideS n x), (w.heap.size + 1, 35, wideS false y)] w' → w'.cell? ⟨w3.heap.size, 1, none⟩ = some (.int .u64 (g : Nat)) := fun w' h => (h.1.cell (.head _) 1).trans rfl
  have c2 : ∀ w', Held w.heap.size W [(w3.heap.size, 35, wideS false g)] w' ∧ Held w.heap.size W [(w.heap.size, 35, wideS n x), (w.heap.size + 1, 35, wideS false y)] w' → w'.cell? ⟨w3.heap.size, 2, none⟩ = some (.int .u64 0) := fun w' h => (h.1.cell (.head _) 2).trans rfl
  have c3 : ∀ w', Held w.heap.size W [(w3.heap.size, 35, wideS false g)] w' ∧ Held w.heap.size W [(w.heap.size, 35, wideS n x), (w.heap.size + 1, 35, wideS false y)] w' → w'.cell? ⟨w3.heap.size, 3, none⟩ = some (.int .u64 0) := fun w' h => (h.1.cell (.head _) 3).trans rfl
  have c4 : ∀ w', Held w.heap.size W [(w3.heap.size, 35, wideS false g)] w' ∧ Held w.heap.size W [(w.heap.size, 35, wideS n x), (w.heap.size + 1, 35, wideS false y)] w' → w'.cell? ⟨w3.heap.size, 4, none⟩ = some (.int .u64 0) := fun w' h => (h.1.cell (.head _) 4).trans rfl
  refine wp_region_T (n := 8) (s := 6) (S0 := Held (w.heap.size) W [(w3.heap.size, 35, wideS false g)]) (F := Held (w.heap.size) W [(w.heap.size, 35, wideS n x), (w.heap.size + 1, 35, wideS false y)]) rfl (by kernel_rfl) ?_
  refine wpAnyT_take (i := 0) (oi := _) (v := ?_) rfl rfl (by kernel_rfl) (by kernel_rfl) (by kernel_rfl) (by kernel_rfl) (by kernel_rfl) (by decide) (fun _ _ _ h => h) (Held.grow hB) (Held.grow hB) (yields_read (by rfl) ?hy0) hS0 hF0 ?_
  rotate_left
  case hy0 =>
    intro w' hSw
    go_simp
    try with_reducible rfl
  simp only [Act.put, List.setIfInBounds_toArray, List.set_cons_zero, List.set_cons_succ]
  refine wpAnyT_take (i := 1) (oi := _) (v := ?_) rfl rfl (by kernel_rfl) (by kernel_rfl) (by kernel_rfl) (by kernel_rfl) (by kernel_rfl) (by decide) (fun _ _ _ h => h) (Held.grow hB) (Held.grow hB) (yields_read (by rfl) ?hy1) hS0 hF0 ?_
  rotate_left
  case hy1 =>
    intro w' hSw
    go_simp
    try with_reducible rfl
  simp only [Act.put, List.setIfInBounds_toArray, List.set_cons_zero, List.set_cons_succ]
  refine wpAnyT_take (i := 2) (oi := _) (v := _) rfl rfl (by kernel_rfl) (by kernel_rfl) (by kernel_rfl) (by kernel_rfl) (by kernel_rfl) (by decide) (fun _ _ _ h => h) (Held.grow hB) (Held.grow hB) (yields_call (by rfl) ?hy2 fun w _ => C4.out w) hS0 hF0 ?_
  case hy2 =>
    intro w' hSw
    go_simp
    try with_reducible rfl
  simp only [Act.put, List.setIfInBounds_toArray, List.set_cons_zero, List.set_cons_succ]
  refine wpAnyT_take (i := 3) (oi := _) (v := ?_) rfl rfl (by kernel_rfl) (by kernel_rfl) (by kernel_rfl) (by kernel_rfl) (by kernel_rfl) (by decide) (fun _ _ _ h => h) (Held.grow hB) (Held.grow hB) (yields_read (by rfl) ?hy3) hS0 hF0 ?_
  rotate_left
  case hy3 =>
    intro w' hSw
    go_simp
    try with_reducible rfl
  simp only [Act.put, List.setIfInBounds_toArray, List.set_cons_zero, List.set_cons_succ]
  refine wpAnyT_take (i := 4) (oi := _) (v := ?_) rfl rfl (by kernel_rfl) (by kernel_rfl) (by kernel_rfl) (by kernel_rfl) (by kernel_rfl) (by decide) (fun _ _ _ h => h) (Held.grow hB) (Held.grow hB) (yields_read (by rfl) ?hy4) hS0 hF0 ?_
  rotate_left
  case hy4 =>
    intro w' hSw
    go_simp
    try with_reducible rfl
  simp only [Act.put, List.setIfInBounds_toArray, List.set_cons_zero, List.set_cons_succ]
  refine wpAnyT_take (i := 5) (oi := _) (v := _) rfl rfl (by kernel_rfl) (by kernel_rfl) (by kernel_rfl) (by kernel_rfl) (by kernel_rfl) (by decide) (fun _ _ _ h => h) (Held.grow hB) (Held.grow hB) (yields_call (by rfl) ?hy5 fun w _ => C5.out w) hS0 hF0 ?_
  case hy5 =>
    intro w' hSw
    go_simp
    try with_reducible rfl
  simp only [Act.put, List.setIfInBounds_toArray, List.set_cons_zero, List.set_cons_succ]
  clear a0 a1 a2 a3 a4 b0 b1 b2 b3 b4 c0 c1 c2 c3 c4 C4 C5 hF0
  refine wpAnyT_to_K (by kernel_rfl) ?_
  refine wpAnyK_puts (i := 6) (g := w.heap.size) (cs := wideS (sgn n p) p) (by kernel_rfl) rfl rfl (by rfl) rfl (Held.grow hB) hS0 N2.out (zero_of_info Tryd.infoWid).2 rfl (wideS_one _ _) ?hx1 ?hy1 ?hs1 ?_
  case hx1 => go_simp
  case hy1 => go_simp
  case hs1 =>
    intro w' h
    refine h.set_ (Nat.le_refl _) ?_ _
    intro x hx
    simp only [List.mem_cons, List.not_mem_nil, or_false] at hx
    subst hx
    simp only
    omega
  intro w4 hS4 bt4 G2
  refine wpAnyK_puts (i := 7) (g := w.heap.size + 1) (cs := wideS false q) (by kernel_rfl) rfl rfl (by rfl) rfl (Held.grow hB) hS4 (bt4.blk _ _ _ (by omega) N3.out) (zero_of_info Tryd.infoWid).2 rfl (wideS_one _ _) ?hx2 ?hy2 ?hs2 ?_
  case hx2 => go_simp
  case hy2 => go_simp
  case hs2 =>
    intro w' h
    refine h.set_ (by omega) ?_ _
    intro x hx
    simp only [List.mem_cons, List.not_mem_nil, or_false] at hx
    subst hx
    simp only
    omega
  intro w5 hS5 bt5 G3
  refine wpAnyK_done (by kernel_rfl) ?_ _
  intro w6 hb6
  have G2' := bt5.blk _ _ _ (by omega) G2
  have G4' := bt5.blk _ _ _ (by omega) (bt4.blk _ _ _ (by omega) N4.out)
  have O2 := Lib.hid (G2'.below hb6 G2'.lt); have O3 := Lib.hid (G3.below hb6 G3.lt); have O4 := Lib.hid (G4'.below hb6 G4'.lt)
  have Hb6 := Lib.hid (Hb3.out.trans ((Held.grow hB _ _ hS5 hb6).1.mono (Nat.le_refl _)))
  clear hb6 G2' G4' G2 G3 bt4 bt5 hS4 hS5 hS0 N2 N3 N4 N6 Hb3
  have d0 := O3.out.cell 0; have d1 := O3.out.cell 1; have d2 := O3.out.cell 2; have d3 := O3.out.cell 3; have d4 := O3.out.cell 4
  simp at d0 d1 d2 d3 d4
  go_wp2_with fail
  refine (C6.out _).mono ?_
  rintro e w7 ⟨rfl, hb7⟩
  have Q2 := Lib.hid (O2.out.below hb7 O2.out.lt); have Q3 := Lib.hid (O3.out.below hb7 O3.out.lt); have Q4 := Lib.hid (O4.out.below hb7 O4.out.lt)
  have Hb7 := Lib.hid (Hb6.out.trans (hb7.mono Hb6.out.size))
  clear hb7 O2 O3 O4 Hb6 C6 d0 d1 d2 d3 d4
  have c0 := Q2.out.cell 0; have c1 := Q2.out.cell 1; have c2 := Q2.out.cell 2; have c3 := Q2.out.cell 3; have c4 := Q2.out.cell 4
  have d0 := Q3.out.cell 0; have d1 := Q3.out.cell 1; have d2 := Q3.out.cell 2; have d3 := Q3.out.cell 3; have d4 := Q3.out.cell 4
  simp at c0 c1 c2 c3 c4 d0 d1 d2 d3 d4
  go_wp2_with (refine wpList_store_row rfl 37 (.tmp 4) (.tmp 33) rfl (w.heap.size + 1 + 1) (ratS (sgn n p) p q) rfl rfl 37 (ratS false 0 0) Q4.out (zero_of_info Tryd.infoRat).2 rfl (ratS_one _ _ _) ?_)
  refine bodyPost_ret (results_cell_tmp rfl _ _ (w.heap.size + 1 + 1) 37 (ratS (sgn n p) p q) _ rfl (Q4.out.setRow _) Tryd.underlying37 rfl (by kernel_rfl)) rfl ⟨rfl, below_setRow Hb7.out (by omega) _⟩
end Go.Proofs.YtfgeocpooimojaaDoor
