/-
  Integers of any size of the reference: sum. Conditions: as each theorem states them.
-/
import Derived.Test.YtfgeocpooimojaaDoorQPfWeightBetween01
namespace Go.Proofs.YtfgeocpooimojaaDoor
open Go Go.RowKit

/-- A number with a sign. -/
def sv (n : Bool) (X : Nat) : Int := if n then -(X : Int) else X
theorem sv_same (n : Bool) (X Y : Nat) (h1 : n = true → X ≠ 0) : decide (sv n X + sv n Y < 0) = n ∧ (sv n X + sv n Y).natAbs = X + Y := by
  cases n
  · simp [sv]; omega
  · have := h1 rfl
    simp [sv]; omega
theorem sv_more (n : Bool) (X Y : Nat) (h : Y ≤ X) : decide (sv n X + sv (!n) Y < 0) = sgn n (X - Y) ∧ (sv n X + sv (!n) Y).natAbs = X - Y := by
  unfold sgn
  cases n
  · simp [sv]; omega
  · simp [sv]
    refine ⟨?_, by omega⟩
    rw [Bool.eq_iff_iff]
    simp
    omega
theorem sv_less (n : Bool) (X Y : Nat) (h : X < Y) : decide (sv n X + sv (!n) Y < 0) = (!n) ∧ (sv n X + sv (!n) Y).natAbs = Y - X := by
  cases n <;> (simp [sv]; omega)
set_option maxHeartbeats 4000000 in
set_option maxRecDepth 100000 in
theorem sum_same (n1 : Bool) (A1 A2 : Option Addr) (n m c1 c2 X Y : Nat) (hn : n ≤ 400) (hm : m ≤ 400) (w : World) (h1 : NatS w A1 n c1 X) (h2 : NatS w A2 m c2 Y) :
    Calls Tryd.prog 77 #[.agg #[.bool n1, .slice A1 n c1], .agg #[.bool n1, .slice A2 m c2]] w (RetWhole w n1 (X + Y)) := by
  have HB := Lib.hid (blk_start3r w 89 89 89 #[.bool n1, .slice A1 n c1] #[.bool n1, .slice A2 m c2] whZ)
  have H1 := Lib.hid (h1.below HB.out.2.2.2); have H2 := Lib.hid (h2.below HB.out.2.2.2)
  clear h1 h2
  have hbb : (n1 == n1) = true := by simp
  generalize hZ : X + Y = Z
  have HZ := Lib.hid hZ; clear hZ
  go_enter Tryd.func77, Tryd.ntmps77
  go_wp2_with fail
  generalize ((w.alloc (.cells #[.bool n1, .slice A1 n c1] 89)).alloc (.cells #[.bool n1, .slice A2 m c2] 89)).alloc (.cells whZ 89) = W at *
  have K0 := Lib.hid HB.out.1; have K1 := Lib.hid HB.out.2.1; have K2 := Lib.hid HB.out.2.2.1; have HbW := Lib.hid HB.out.2.2.2
  have C : Hid (∀ W', Below W.heap.size W W' → Calls Tryd.prog 94 #[.slice A1 n c1, .slice A2 m c2] W' (RetNat W' Z)) := fun W' h => by
    rw [← HZ.out]; exact plus_at A1 A2 n m c1 c2 X Y (by omega) (by omega) W' (H1.out.below h) (H2.out.below h)
  clear HB
  have hB : w.heap.size + 1 + 1 ≤ W.heap.size := Nat.le_of_lt K2.out.lt
  have c0 := keepB (B := w.heap.size + 1 + 1) (K0.out.cell 0) (by simp; omega); have c1' := keepB (B := w.heap.size + 1 + 1) (K0.out.cell 1) (by simp; omega)
  have d0 := keepB (B := w.heap.size + 1 + 1) (K1.out.cell 0) (by simp); have d1 := keepB (B := w.heap.size + 1 + 1) (K1.out.cell 1) (by simp)
  refine wp_region_Kn (n := 9) (S := fun w' => Below (w.heap.size + 1 + 1) W w') rfl (by kernel_rfl) ?_
  have hS0 : Below (w.heap.size + 1 + 1) W { W with drawn := W.drawn + 1 } := (Below.refl _ _).drew
  refine wpAnyK_taked (i := 0) (oi := _) (v := ?_) rfl rfl (by kernel_rfl) (by kernel_rfl) (by kernel_rfl) (fun _ _ _ h => h) (fun _ _ h k => h.trans (k.mono (Nat.le_trans hB h.size))) (yields_read (by rfl) ?hy0) hS0 ?_
  rotate_left
  case hy0 =>
    intro w' hSw
    go_simp
    try with_reducible rfl
  simp only [Act.put, List.setIfInBounds_toArray, List.set_cons_zero, List.set_cons_succ]
  refine wpAnyK_taked (i := 1) (oi := _) (v := ?_) rfl rfl (by kernel_rfl) (by kernel_rfl) (by kernel_rfl) (fun _ _ _ h => h) (fun _ _ h k => h.trans (k.mono (Nat.le_trans hB h.size))) (yields_read (by rfl) ?hy1) hS0 ?_
  rotate_left
  case hy1 =>
    intro w' hSw
    go_simp
    try with_reducible rfl
  simp only [Act.put, List.setIfInBounds_toArray, List.set_cons_zero, List.set_cons_succ]
  refine wpAnyK_taked (i := 2) (oi := _) (v := ?_) rfl rfl (by kernel_rfl) (by kernel_rfl) (by kernel_rfl) (fun _ _ _ h => h) (fun _ _ h k => h.trans (k.mono (Nat.le_trans hB h.size))) (yields_read (by rfl) ?hy2) hS0 ?_
  rotate_left
  case hy2 =>
    intro w' hSw
    go_simp
    try with_reducible rfl
  simp only [Act.put, List.setIfInBounds_toArray, List.set_cons_zero, List.set_cons_succ]
  refine wpAnyK_taked (i := 3) (oi := _) (v := ?_) rfl rfl (by kernel_rfl) (by kernel_rfl) (by kernel_rfl) (fun _ _ _ h => h) (fun _ _ h k => h.trans (k.mono (Nat.le_trans hB h.size))) (yields_read (by rfl) ?hy3) hS0 ?_
  rotate_left
  case hy3 =>
    intro w' hSw
    go_simp
    try with_reducible rfl
  simp only [Act.put, List.setIfInBounds_toArray, List.set_cons_zero, List.set_cons_succ]
  refine wpAnyK_taked (i := 4) (oi := _) (v := ?_) rfl rfl (by kernel_rfl) (by kernel_rfl) (by kernel_rfl) (fun _ _ _ h => h) (fun _ _ h k => h.trans (k.mono (Nat.le_trans hB h.size))) (yields_read (by rfl) ?hy4) hS0 ?_
  rotate_left
  case hy4 =>
    intro w' hSw
    go_simp
    try with_reducible rfl
  simp only [Act.put, List.setIfInBounds_toArray, List.set_cons_zero, List.set_cons_succ]
  refine wpAnyK_taked (i := 5) (oi := _) (v := ?_) rfl rfl (by kernel_rfl) (by kernel_rfl) (by kernel_rfl) (fun _ _ _ h => h) (fun _ _ h k => h.trans (k.mono (Nat.le_trans hB h.size))) (yields_read (by rfl) ?hy5) hS0 ?_
  rotate_left
  case hy5 =>
    intro w' hSw
    go_simp
    try with_reducible rfl
  simp only [Act.put, List.setIfInBounds_toArray, List.set_cons_zero, List.set_cons_succ]
  have hSc : ∀ a b : World, Below (w.heap.size + 1 + 1) W a → Below a.heap.size a b → Below (w.heap.size + 1 + 1) W b := fun _ _ h k => h.trans (k.mono (Nat.le_trans hB h.size))
  have K2' : Blk { W with drawn := W.drawn + 1 } (w.heap.size + 1 + 1) 89 whZ := K2.out
  have hsz0 : W.heap.size ≤ (World.heap { W with drawn := W.drawn + 1 }).size := Nat.le_refl _
  have hbW : Below W.heap.size W { W with drawn := W.drawn + 1 } := (Below.refl _ W).drew
  generalize { W with drawn := W.drawn + 1 } = W0 at *
  refine wpAnyK_call1 (i := 6) (d := 18) (R := fun v w' => NatV w' v Z ∧ ∀ g, v.ownBlock = some g → W.heap.size ≤ g) (by kernel_rfl) rfl rfl (by rfl) hSc hS0 ?e1 (fun w1 hb _ => (C.out w1 (Below.later hbW hb)).mono fun _ _ ⟨v, h1, h2, h3, h4⟩ => ⟨_, h1, ⟨h2, fun g hg => Nat.le_trans (Nat.le_trans hsz0 hb.size) (h3 g hg)⟩, h4⟩) ?_
  case e1 => intro w' hSw; go_simp
  rintro v1 w0 hb0 hS0' ⟨hv1, hf1⟩
  obtain ⟨A, k, c, rfl, hs⟩ := hv1
  have J2 := K2'.below hb0 K2'.lt
  simp only [Act.put, List.setIfInBounds_toArray, List.set_cons_zero, List.set_cons_succ]
  refine wpAnyK_nextd (i := 7) (v := .agg #[.bool n1, .slice A k c]) (by kernel_rfl) rfl rfl (by rfl) hSc hS0' ?e2 ?_
  case e2 => intro w' hSw; go_simp
  simp only [Act.put, List.setIfInBounds_toArray, List.set_cons_zero, List.set_cons_succ]
  refine wpAnyK_putc (i := 8) (g := w.heap.size + 1 + 1) (old := whZ) (cs := #[.bool n1, .slice A k c]) (by kernel_rfl) rfl rfl (by rfl) rfl hSc hS0' J2 (zero_of_info Tryd.infoWhole).2 rfl (by simp [Value.oneCell']) ?x1 ?y1 (fun w' h => below_setRow h (Nat.le_refl _) _) ?_
  case x1 => go_simp
  case y1 => go_simp
  intro w2 hS2 hfar2 G1
  have hv2 : NatV w2 (.slice A k c) Z := NatV.far ⟨_, _, _, rfl, hs⟩ hfar2 (fun g hg => by have := hf1 g hg; have := K2.out.lt; omega)
  refine wpAnyK_done (by kernel_rfl) ?_ _
  intro w4 hb4
  have O1 := Lib.hid (G1.below hb4 G1.lt); have V1 := Lib.hid (hv2.below hb4)
  have Hb4 : Hid (Below w.heap.size w w4) := HbW.out.trans ((hSc _ _ hS2 hb4).mono (by omega))
  clear hS0 hS0' hS2 hb0 hb4 hv2 hf1 hfar2 J2 G1 K2' hSc hs
  go_wp2_with fail
  exact bodyPost_ret (results_cell_one rfl _ _ (w.heap.size + 1 + 1) 89 #[.bool n1, .slice A k c] _ rfl O1.out Tryd.underlying89 rfl (by kernel_rfl)) rfl ⟨_, rfl, V1.out, Hb4.out⟩
set_option maxHeartbeats 4000000 in
set_option maxRecDepth 100000 in
theorem sum_more (n1 : Bool) (A1 A2 : Option Addr) (n m c1 c2 X Y : Nat) (hn : n ≤ 400) (hm : m ≤ 400) (hle : Y ≤ X) (w : World) (h1 : NatS w A1 n c1 X) (h2 : NatS w A2 m c2 Y) :
    Calls Tryd.prog 77 #[.agg #[.bool n1, .slice A1 n c1], .agg #[.bool (!n1), .slice A2 m c2]] w (RetWhole w (sgn n1 (X - Y)) (X - Y)) := by
  obtain ⟨n2, hn2⟩ : ∃ b, b = !n1 := ⟨_, rfl⟩
  rw [← hn2]
  have hbb : (n1 == n2) = false := by rw [hn2]; cases n1 <;> rfl
  clear hn2
  have HB := Lib.hid (blk_start3r w 89 89 89 #[.bool n1, .slice A1 n c1] #[.bool n2, .slice A2 m c2] whZ)
  have H1 := Lib.hid (h1.below HB.out.2.2.2); have H2 := Lib.hid (h2.below HB.out.2.2.2)
  clear h1 h2
  have CC : Hid (Calls Tryd.prog 95 #[.slice A1 n c1, .slice A2 m c2] _ fun e w' => e = .returned (.int .i64 (cmpN X Y)) ∧ Below _ _ w') := natCompare_at A1 A2 n m c1 c2 X Y (by omega) (by omega) _ H1.out.rd H2.out.rd H1.out.trm H2.out.trm
  have hcv := cmp_hi hle
  have CM : Hid (∀ W', Below _ _ W' → Calls Tryd.prog 96 #[.slice A1 n c1, .slice A2 m c2] W' (RetNat W' (X - Y))) := fun W' h => minus_at A1 A2 n m c1 c2 X Y (by omega) (by omega) hle W' (H1.out.below h) (H2.out.below h)
  generalize cmpN X Y = cv at *
  generalize X - Y = Z at *
  clear hle H1 H2
  obtain ⟨sg, hsg⟩ : ∃ s, sgn n1 Z = s := ⟨_, rfl⟩
  rw [hsg]
  have HSG := Lib.hid hsg; clear hsg
  go_enter Tryd.func77, Tryd.ntmps77
  go_wp2_with fail
  refine CC.out.mono ?_
  rintro e w1 ⟨rfl, hb1⟩
  have K0 := Lib.hid (HB.out.1.below hb1 HB.out.1.lt); have K1 := Lib.hid (HB.out.2.1.below hb1 HB.out.2.1.lt); have K2 := Lib.hid (HB.out.2.2.1.below hb1 HB.out.2.2.1.lt)
  have Hb1 : Hid (Below w.heap.size w w1) := Lib.hid (HB.out.2.2.2.trans (hb1.mono HB.out.2.2.2.size))
  have CM1 := Lib.hid (CM.out w1 hb1)
  have c1' := K0.out.cell 1; have d1 := K1.out.cell 1
  simp at c1' d1
  clear hb1 HB CC CM
  go_wp2_with fail
  refine CM1.out.mono ?_
  rintro e w2 ⟨v, rfl, hv, hf, hb2⟩
  obtain ⟨A, k, c, rfl, hs⟩ := hv
  have L0 := Lib.hid (K0.out.below hb2 K0.out.lt); have L2 := Lib.hid (K2.out.below hb2 K2.out.lt)
  have Hb2 := Lib.hid (Hb1.out.trans (hb2.mono Hb1.out.size))
  have HF : Hid (∀ g, (Value.slice A k c).ownBlock = some g → g ≠ w.heap.size + 1 + 1) := fun g hg => by have := hf g hg; have := K2.out.lt; omega
  have HS := Lib.hid hs
  have e0 := L0.out.cell 0
  simp at e0
  have E : n1 = true → decide (0 < k) = sg := by
    intro h
    rw [← HSG.out, h]
    exact dec_sgn (natS_pos HS.out)
  have E' : n1 = false → sg = false := by intro h; rw [← HSG.out, h]; rfl
  clear hs hf hb2 K0 K1 K2 Hb1 CM1 c1' d1 hbb
  cases n1
  case' false =>
    obtain rfl := E' rfl
    clear E E'
  case' true =>
    have E := E rfl
    clear E'
  all_goals
    go_wp2_with (refine wpList_store_row rfl 89 (.tmp 4) (.tmp 40) rfl (w.heap.size + 1 + 1) #[.bool _, .slice A k c] rfl rfl 89 whZ L2.out (zero_of_info Tryd.infoWhole).2 rfl (by simp [Value.oneCell']) ?_)
    refine bodyPost_ret (results_cell_one rfl _ _ (w.heap.size + 1 + 1) 89 #[.bool _, .slice A k c] _ rfl (L2.out.setRow _) Tryd.underlying89 rfl (by kernel_rfl)) rfl ⟨_, rfl, natV_setRow ⟨_, _, _, rfl, HS.out⟩ HF.out _, below_setRow Hb2.out (by omega) _⟩
set_option maxHeartbeats 4000000 in
set_option maxRecDepth 100000 in
theorem sum_less (n1 : Bool) (A1 A2 : Option Addr) (n m c1 c2 X Y : Nat) (hn : n ≤ 400) (hm : m ≤ 400) (hlt : X < Y) (w : World) (h1 : NatS w A1 n c1 X) (h2 : NatS w A2 m c2 Y) :
    Calls Tryd.prog 77 #[.agg #[.bool n1, .slice A1 n c1], .agg #[.bool (!n1), .slice A2 m c2]] w (RetWhole w (!n1) (Y - X)) := by
  obtain ⟨n2, hn2⟩ : ∃ b, b = !n1 := ⟨_, rfl⟩
  rw [← hn2]
  have hbb : (n1 == n2) = false := by rw [hn2]; cases n1 <;> rfl
  clear hn2
  have HB := Lib.hid (blk_start3r w 89 89 89 #[.bool n1, .slice A1 n c1] #[.bool n2, .slice A2 m c2] whZ)
  have H1 := Lib.hid (h1.below HB.out.2.2.2); have H2 := Lib.hid (h2.below HB.out.2.2.2)
  clear h1 h2
  have CC : Hid (Calls Tryd.prog 95 #[.slice A1 n c1, .slice A2 m c2] _ fun e w' => e = .returned (.int .i64 (cmpN X Y)) ∧ Below _ _ w') := natCompare_at A1 A2 n m c1 c2 X Y (by omega) (by omega) _ H1.out.rd H2.out.rd H1.out.trm H2.out.trm
  have hcv := cmp_lo hlt
  have CM : Hid (∀ W', Below _ _ W' → Calls Tryd.prog 96 #[.slice A2 m c2, .slice A1 n c1] W' (RetNat W' (Y - X))) := fun W' h => minus_at A2 A1 m n c2 c1 Y X (by omega) (by omega) (by omega) W' (H2.out.below h) (H1.out.below h)
  generalize cmpN X Y = cv at *
  generalize Y - X = Z at *
  clear hlt H1 H2
  go_enter Tryd.func77, Tryd.ntmps77
  go_wp2_with fail
  refine CC.out.mono ?_
  rintro e W ⟨rfl, hb1⟩
  have K0 := Lib.hid (HB.out.1.below hb1 HB.out.1.lt); have K1 := Lib.hid (HB.out.2.1.below hb1 HB.out.2.1.lt); have K2 := Lib.hid (HB.out.2.2.1.below hb1 HB.out.2.2.1.lt)
  have HbW : Hid (Below w.heap.size w W) := Lib.hid (HB.out.2.2.2.trans (hb1.mono HB.out.2.2.2.size))
  have C : Hid (∀ W', Below W.heap.size W W' → Calls Tryd.prog 96 #[.slice A2 m c2, .slice A1 n c1] W' (RetNat W' Z)) := fun W' h => CM.out W' (Below.later hb1 h)
  clear hb1 HB CC CM
  go_wp2_with fail
  have hB : w.heap.size + 1 + 1 ≤ W.heap.size := Nat.le_of_lt K2.out.lt
  have c0 := keepB (B := w.heap.size + 1 + 1) (K0.out.cell 0) (by simp; omega); have c1' := keepB (B := w.heap.size + 1 + 1) (K0.out.cell 1) (by simp; omega)
  have d0 := keepB (B := w.heap.size + 1 + 1) (K1.out.cell 0) (by simp); have d1 := keepB (B := w.heap.size + 1 + 1) (K1.out.cell 1) (by simp)
  refine wp_region_Kn (n := 9) (S := fun w' => Below (w.heap.size + 1 + 1) W w') rfl (by kernel_rfl) ?_
  have hS0 : Below (w.heap.size + 1 + 1) W { W with drawn := W.drawn + 1 } := (Below.refl _ _).drew
  refine wpAnyK_taked (i := 0) (oi := _) (v := ?_) rfl rfl (by kernel_rfl) (by kernel_rfl) (by kernel_rfl) (fun _ _ _ h => h) (fun _ _ h k => h.trans (k.mono (Nat.le_trans hB h.size))) (yields_read (by rfl) ?hy0) hS0 ?_
  rotate_left
  case hy0 =>
    intro w' hSw
    go_simp
    try with_reducible rfl
  simp only [Act.put, List.setIfInBounds_toArray, List.set_cons_zero, List.set_cons_succ]
  refine wpAnyK_taked (i := 1) (oi := _) (v := ?_) rfl rfl (by kernel_rfl) (by kernel_rfl) (by kernel_rfl) (fun _ _ _ h => h) (fun _ _ h k => h.trans (k.mono (Nat.le_trans hB h.size))) (yields_read (by rfl) ?hy1) hS0 ?_
  rotate_left
  case hy1 =>
    intro w' hSw
    go_simp
    try with_reducible rfl
  simp only [Act.put, List.setIfInBounds_toArray, List.set_cons_zero, List.set_cons_succ]
  refine wpAnyK_taked (i := 2) (oi := _) (v := ?_) rfl rfl (by kernel_rfl) (by kernel_rfl) (by kernel_rfl) (fun _ _ _ h => h) (fun _ _ h k => h.trans (k.mono (Nat.le_trans hB h.size))) (yields_read (by rfl) ?hy2) hS0 ?_
  rotate_left
  case hy2 =>
    intro w' hSw
    go_simp
    try with_reducible rfl
  simp only [Act.put, List.setIfInBounds_toArray, List.set_cons_zero, List.set_cons_succ]
  refine wpAnyK_taked (i := 3) (oi := _) (v := ?_) rfl rfl (by kernel_rfl) (by kernel_rfl) (by kernel_rfl) (fun _ _ _ h => h) (fun _ _ h k => h.trans (k.mono (Nat.le_trans hB h.size))) (yields_read (by rfl) ?hy3) hS0 ?_
  rotate_left
  case hy3 =>
    intro w' hSw
    go_simp
    try with_reducible rfl
  simp only [Act.put, List.setIfInBounds_toArray, List.set_cons_zero, List.set_cons_succ]
  refine wpAnyK_taked (i := 4) (oi := _) (v := ?_) rfl rfl (by kernel_rfl) (by kernel_rfl) (by kernel_rfl) (fun _ _ _ h => h) (fun _ _ h k => h.trans (k.mono (Nat.le_trans hB h.size))) (yields_read (by rfl) ?hy4) hS0 ?_
  rotate_left
  case hy4 =>
    intro w' hSw
    go_simp
    try with_reducible rfl
  simp only [Act.put, List.setIfInBounds_toArray, List.set_cons_zero, List.set_cons_succ]
  refine wpAnyK_taked (i := 5) (oi := _) (v := ?_) rfl rfl (by kernel_rfl) (by kernel_rfl) (by kernel_rfl) (fun _ _ _ h => h) (fun _ _ h k => h.trans (k.mono (Nat.le_trans hB h.size))) (yields_read (by rfl) ?hy5) hS0 ?_
  rotate_left
  case hy5 =>
    intro w' hSw
    go_simp
    try with_reducible rfl
  simp only [Act.put, List.setIfInBounds_toArray, List.set_cons_zero, List.set_cons_succ]
  have hSc : ∀ a b : World, Below (w.heap.size + 1 + 1) W a → Below a.heap.size a b → Below (w.heap.size + 1 + 1) W b := fun _ _ h k => h.trans (k.mono (Nat.le_trans hB h.size))
  have K2' : Blk { W with drawn := W.drawn + 1 } (w.heap.size + 1 + 1) 89 whZ := K2.out
  have hsz0 : W.heap.size ≤ (World.heap { W with drawn := W.drawn + 1 }).size := Nat.le_refl _
  have hbW : Below W.heap.size W { W with drawn := W.drawn + 1 } := (Below.refl _ W).drew
  generalize { W with drawn := W.drawn + 1 } = W0 at *
  refine wpAnyK_call1 (i := 6) (d := 47) (R := fun v w' => NatV w' v Z ∧ ∀ g, v.ownBlock = some g → W.heap.size ≤ g) (by kernel_rfl) rfl rfl (by rfl) hSc hS0 ?e1 (fun w1 hb _ => (C.out w1 (Below.later hbW hb)).mono fun _ _ ⟨v, h1, h2, h3, h4⟩ => ⟨_, h1, ⟨h2, fun g hg => Nat.le_trans (Nat.le_trans hsz0 hb.size) (h3 g hg)⟩, h4⟩) ?_
  case e1 => intro w' hSw; go_simp
  rintro v1 w0 hb0 hS0' ⟨hv1, hf1⟩
  obtain ⟨A, k, c, rfl, hs⟩ := hv1
  have J2 := K2'.below hb0 K2'.lt
  simp only [Act.put, List.setIfInBounds_toArray, List.set_cons_zero, List.set_cons_succ]
  refine wpAnyK_nextd (i := 7) (v := .agg #[.bool n2, .slice A k c]) (by kernel_rfl) rfl rfl (by rfl) hSc hS0' ?e2 ?_
  case e2 => intro w' hSw; go_simp
  simp only [Act.put, List.setIfInBounds_toArray, List.set_cons_zero, List.set_cons_succ]
  refine wpAnyK_putc (i := 8) (g := w.heap.size + 1 + 1) (old := whZ) (cs := #[.bool n2, .slice A k c]) (by kernel_rfl) rfl rfl (by rfl) rfl hSc hS0' J2 (zero_of_info Tryd.infoWhole).2 rfl (by simp [Value.oneCell']) ?x1 ?y1 (fun w' h => below_setRow h (Nat.le_refl _) _) ?_
  case x1 => go_simp
  case y1 => go_simp
  intro w2 hS2 hfar2 G1
  have hv2 : NatV w2 (.slice A k c) Z := NatV.far ⟨_, _, _, rfl, hs⟩ hfar2 (fun g hg => by have := hf1 g hg; have := K2.out.lt; omega)
  refine wpAnyK_done (by kernel_rfl) ?_ _
  intro w4 hb4
  have O1 := Lib.hid (G1.below hb4 G1.lt); have V1 := Lib.hid (hv2.below hb4)
  have Hb4 : Hid (Below w.heap.size w w4) := HbW.out.trans ((hSc _ _ hS2 hb4).mono (by omega))
  clear hS0 hS0' hS2 hb0 hb4 hv2 hf1 hfar2 J2 G1 K2' hSc hs
  go_wp2_with fail
  exact bodyPost_ret (results_cell_one rfl _ _ (w.heap.size + 1 + 1) 89 #[.bool n2, .slice A k c] _ rfl O1.out Tryd.underlying89 rfl (by kernel_rfl)) rfl ⟨_, rfl, V1.out, Hb4.out⟩
theorem sum_at (n1 n2 : Bool) (A1 A2 : Option Addr) (n m c1 c2 X Y : Nat) (hn : n ≤ 400) (hm : m ≤ 400) (hx : n1 = true → X ≠ 0) (w : World) (h1 : NatS w A1 n c1 X) (h2 : NatS w A2 m c2 Y) :
    Calls Tryd.prog 77 #[.agg #[.bool n1, .slice A1 n c1], .agg #[.bool n2, .slice A2 m c2]] w (RetWhole w (decide (sv n1 X + sv n2 Y < 0)) (sv n1 X + sv n2 Y).natAbs) := by
  by_cases e : n1 = n2
  · subst e
    rw [(sv_same n1 X Y hx).1, (sv_same n1 X Y hx).2]
    exact sum_same n1 A1 A2 n m c1 c2 X Y hn hm w h1 h2
  · obtain rfl : n2 = !n1 := by cases n1 <;> cases n2 <;> simp_all
    by_cases hle : Y ≤ X
    · rw [(sv_more n1 X Y hle).1, (sv_more n1 X Y hle).2]
      exact sum_more n1 A1 A2 n m c1 c2 X Y hn hm hle w h1 h2
    · rw [(sv_less n1 X Y (by omega)).1, (sv_less n1 X Y (by omega)).2]
      exact sum_less n1 A1 A2 n m c1 c2 X Y hn hm (by omega) w h1 h2
end Go.Proofs.YtfgeocpooimojaaDoor
