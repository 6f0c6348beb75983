/-
  Fractions of the reference: parts, product, minusOf. Conditions: as each theorem states them. Integers of any size of the reference: product, minusOf, sum. Conditions: as each theorem states them.
-/
import Derived.Test.YtfgeocpooimojaaDoorQPfWeightBetween00
namespace Go.Proofs.YtfgeocpooimojaaDoor
open Go Go.RowKit

/-- Outside block g what was there is there. -/
structure Far (g : Nat) (w w' : World) : Prop where
  cell : ∀ p : Addr, p.block ≠ g → p.block < w.heap.size → w'.cell? p = w.cell? p
  size : w.heap.size ≤ w'.heap.size
  blk : ∀ h t c, h ≠ g → Blk w h t c → Blk w' h t c
theorem NatV.far {w w' : World} {v : Value} {N g : Nat} (h : NatV w v N) (hf : Far g w w') (hp : ∀ g', v.ownBlock = some g' → g' ≠ g) : NatV w' v N := by
  obtain ⟨A, n, c, rfl, h⟩ := h
  refine ⟨A, n, c, rfl, h.cap, h.top, h.trm, h.rd.1, fun h0 => ?_⟩
  obtain ⟨ad, rfl, hb, hc⟩ := h.rd.2 h0
  exact ⟨ad, rfl, Nat.lt_of_lt_of_le hb hf.size, fun j x hx => (hf.cell _ (by rw [block_of_add]; exact hp ad.block rfl) (by rw [block_of_add]; exact hb)).trans (hc j x hx)⟩
section
variable {P : Program} {ops : Array Oper} {Q : Exit → Act → World → Prop} {md : Region.Mode} {S : World → Prop}
/-- A whole value is stored into a variable that is there; what lies elsewhere stays. -/
theorem wpAnyK_putc {i fuel : Nat} {oi : Oper} {listed : Array Bool} {a : Act} {w : World} {g : Nat} {ty : TypeId} {x y : Operand} {old cs : Array Value} (hr : Region.ready md ops listed = [i]) (hi : ops[i]? = some oi) (hd : oi.dst = none) (hw : Region.wanted oi (yielded ops a.tmps) = true)
    (hop : oi.op = .store ty x y) (hSc : ∀ w w', S w → Below w.heap.size w w' → S w') (hS : S w) (hG : Blk w g ty old) (hsz : (P.info? ty).map (·.size) = some cs.size) (hzs : old.size = cs.size) (hone : cs.all (·.oneCell') = true)
    (hx : a.eval x = .pointer (some ⟨g, 0, none⟩)) (hy : a.eval y = .agg cs) (hset : ∀ w', S w' → S (w'.setRow g cs))
    (h : ∀ w', S w' → Far g w w' → Blk w' g ty cs → wpAnyK P md ops Q S fuel (listed.setIfInBounds i true) a w') :
    wpAnyK P md ops Q S (fuel + 1) listed a w := by
  refine wpAnyK_one hr hi hw fun w1 hb1 => ?_
  have G1 : Blk w1 g ty old := hG.below hb1 hG.lt
  refine wp_store_row ty x y hop g cs hx hy ty old G1 hsz hzs hone ?_
  have hS2 := hset w1 (hSc _ _ hS hb1)
  rw [hd]
  exact ⟨hS2, h _ hS2 ⟨fun p hp hlt => (World.cell?_of_block (setRow_other w1 g _ cs hp)).trans (hb1.cell hlt), by rw [size_setRow]; exact hb1.size, fun k t c hk hc => (hc.below hb1 hc.lt).farRow hk cs⟩ (G1.setRow cs)⟩
end
theorem results_two_whole {P : Program} {fn : Func} {p q : Tmp} {ty : TypeId} (h : fn.results = #[.cell p ty, .cell q ty]) (tmps : Array Value) (w : World) (g1 g2 : Nat) (t1 t2 : TypeId) (c1 c2 : Array Value) (d : TypeDesc)
    (hp : tmps.getD p undef = .pointer (some ⟨g1, 0, none⟩)) (hq : tmps.getD q undef = .pointer (some ⟨g2, 0, none⟩)) (b1 : Blk w g1 t1 c1) (b2 : Blk w g2 t2 c2) (hu : P.underlying ty = some d) (hd : (match d with | .struct _ | .array _ _ => true | _ => false) = true)
    (i1 : (P.info? ty).map (·.size) = some c1.size) (i2 : (P.info? ty).map (·.size) = some c2.size) :
    (results fn tmps).run P w = .ok (.tuple #[.agg c1, .agg c2]) w := by
  have hp' : tmps[p]?.getD undef = .pointer (some ⟨g1, 0, none⟩) := by simpa using hp
  have hq' : tmps[q]?.getD undef = .pointer (some ⟨g2, 0, none⟩) := by simpa using hq
  simp [results, h, hp', hq', asAddr, run_loadVar_row w g1 t1 ty c1 (0, 0) d b1 hu hd i1, run_loadVar_row w g2 t2 ty c2 (0, 0) d b2 hu hd i2]
theorem whole_one {w : World} {v : Value} {N : Nat} (n : Bool) (h : NatV w v N) : (#[Value.bool n, v] : Array Value).all (·.oneCell') = true := by
  obtain ⟨A, m, c, rfl, _⟩ := h
  simp [Value.oneCell']
/-- What parts returns. -/
def RetParts (w : World) (n : Bool) (p q : Nat) (e : Ending) (w' : World) : Prop := ∃ v u, e = .returned (.tuple #[.agg #[.bool n, v], .agg #[.bool false, u]]) ∧ NatV w' v p ∧ NatV w' u q ∧ Below w.heap.size w w'
abbrev whZ : Array Value := #[.bool false, .slice none 0 0]
set_option maxHeartbeats 4000000 in
set_option maxRecDepth 100000 in
theorem parts_at (n : Bool) (p q : Nat) (hp : p < 18446744073709551616) (hq : q < 18446744073709551616) (hnp : n = true → p ≠ 0) (hq0 : q ≠ 0) (hg : Nat.gcd p q = 1) (w : World) :
    Calls Tryd.prog 76 #[.agg (ratS n p q)] w (RetParts w n p q) := by
  have HB := Lib.hid (blk_start3r w 37 89 89 (ratS n p q) whZ whZ)
  have CV := Lib.hid (fun W => refValid_at n p q hp hq hnp hq0 hg W)
  have C1 := Lib.hid (fun W => wholeOf_at n p hp hnp W)
  have C2 := Lib.hid (fun W => wholeOf_at false q hq (fun h => by cases h) W)
  clear hp hq hnp hq0 hg
  go_enter Tryd.func76, Tryd.ntmps76
  go_wp2_with fail
  refine (CV.out _).mono ?_
  rintro e W ⟨rfl, hb1⟩
  have K0 := Lib.hid (HB.out.1.below hb1 HB.out.1.lt); have K1 := Lib.hid (HB.out.2.1.below hb1 HB.out.2.1.lt); have K2 := Lib.hid (HB.out.2.2.1.below hb1 HB.out.2.2.1.lt)
  have Hb1 : Hid (Below w.heap.size w W) := Lib.hid (HB.out.2.2.2.trans (hb1.mono HB.out.2.2.2.size))
  clear hb1 HB CV
  go_wp2_with fail
  have hB : w.heap.size + 1 ≤ W.heap.size := K0.out.lt
  have hK2 : w.heap.size + 1 + 1 < W.heap.size := K2.out.lt
  have c0 := keepB (B := w.heap.size + 1) (K0.out.cell 0) (by simp); have c1 := keepB (B := w.heap.size + 1) (K0.out.cell 1) (by simp); have c2 := keepB (B := w.heap.size + 1) (K0.out.cell 2) (by simp); have c3 := keepB (B := w.heap.size + 1) (K0.out.cell 3) (by simp); have c4 := keepB (B := w.heap.size + 1) (K0.out.cell 4) (by simp)
  have c5 := keepB (B := w.heap.size + 1) (K0.out.cell 5) (by simp); have c6 := keepB (B := w.heap.size + 1) (K0.out.cell 6) (by simp); have c7 := keepB (B := w.heap.size + 1) (K0.out.cell 7) (by simp); have c8 := keepB (B := w.heap.size + 1) (K0.out.cell 8) (by simp); have c9 := keepB (B := w.heap.size + 1) (K0.out.cell 9) (by simp)
  refine wp_region_Kn (n := 8) (S := fun w' => Below (w.heap.size + 1) W w') rfl (by kernel_rfl) ?_
  have hS0 : Below (w.heap.size + 1) W { W with drawn := W.drawn + 1 } := (Below.refl _ _).drew
  refine wpAnyK_taked (i := 0) (oi := _) (v := ?_) rfl rfl (by kernel_rfl) (by kernel_rfl) (by kernel_rfl) (fun _ _ _ h => h) (fun _ _ h k => h.trans (k.mono (Nat.le_trans hB h.size))) (yields_read (by rfl) ?hy0) hS0 ?_
  rotate_left
  case hy0 =>
    intro w' hSw
    go_simp
    try with_reducible rfl
  simp only [Act.put, List.setIfInBounds_toArray, List.set_cons_zero, List.set_cons_succ]
  refine wpAnyK_taked (i := 1) (oi := _) (v := ?_) rfl rfl (by kernel_rfl) (by kernel_rfl) (by kernel_rfl) (fun _ _ _ h => h) (fun _ _ h k => h.trans (k.mono (Nat.le_trans hB h.size))) (yields_read (by rfl) ?hy1) hS0 ?_
  rotate_left
  case hy1 =>
    intro w' hSw
    go_simp
    try with_reducible rfl
  simp only [Act.put, List.setIfInBounds_toArray, List.set_cons_zero, List.set_cons_succ]
  refine wpAnyK_taked (i := 3) (oi := _) (v := ?_) rfl rfl (by kernel_rfl) (by kernel_rfl) (by kernel_rfl) (fun _ _ _ h => h) (fun _ _ h k => h.trans (k.mono (Nat.le_trans hB h.size))) (yields_read (by rfl) ?hy3) hS0 ?_
  rotate_left
  case hy3 =>
    intro w' hSw
    go_simp
    try with_reducible rfl
  simp only [Act.put, List.setIfInBounds_toArray, List.set_cons_zero, List.set_cons_succ]
  refine wpAnyK_taked (i := 4) (oi := _) (v := ?_) rfl rfl (by kernel_rfl) (by kernel_rfl) (by kernel_rfl) (fun _ _ _ h => h) (fun _ _ h k => h.trans (k.mono (Nat.le_trans hB h.size))) (yields_read (by rfl) ?hy4) hS0 ?_
  rotate_left
  case hy4 =>
    intro w' hSw
    go_simp
    try with_reducible rfl
  simp only [Act.put, List.setIfInBounds_toArray, List.set_cons_zero, List.set_cons_succ]
  have hSc : ∀ a b : World, Below (w.heap.size + 1) W a → Below a.heap.size a b → Below (w.heap.size + 1) W b := fun _ _ h k => h.trans (k.mono (Nat.le_trans hB h.size))
  have K1' : Blk { W with drawn := W.drawn + 1 } (w.heap.size + 1) 89 whZ := K1.out
  have K2' : Blk { W with drawn := W.drawn + 1 } (w.heap.size + 1 + 1) 89 whZ := K2.out
  have hsz0 : W.heap.size ≤ (World.heap { W with drawn := W.drawn + 1 }).size := Nat.le_refl _
  generalize { W with drawn := W.drawn + 1 } = W0 at *
  refine wpAnyK_call1 (i := 2) (d := 12) (R := fun v w' => ∃ s, v = .agg #[.bool n, s] ∧ NatV w' s p ∧ ∀ g, s.ownBlock = some g → W.heap.size ≤ g) (by kernel_rfl) rfl rfl (by rfl) hSc hS0 ?e1 (fun w1 hb _ => (C1.out w1).mono fun _ _ ⟨v, h1, h2, h3, h4⟩ => ⟨_, h1, ⟨v, rfl, h2, fun g hg => Nat.le_trans (Nat.le_trans hsz0 hb.size) (h3 g hg)⟩, h4⟩) ?_
  case e1 => intro w' hSw; go_simp
  rintro v1 w0 hb0 hS0' ⟨s1, rfl, hv1, hf1⟩
  simp only [Act.put, List.setIfInBounds_toArray, List.set_cons_zero, List.set_cons_succ]
  refine wpAnyK_call1 (i := 5) (d := 15) (R := fun v w' => ∃ s, v = .agg #[.bool false, s] ∧ NatV w' s q ∧ ∀ g, s.ownBlock = some g → W.heap.size ≤ g) (by kernel_rfl) rfl rfl (by rfl) hSc hS0' ?e2 (fun w1 hb _ => (C2.out w1).mono fun _ _ ⟨v, h1, h2, h3, h4⟩ => ⟨_, h1, ⟨v, rfl, h2, fun g hg => Nat.le_trans (Nat.le_trans (Nat.le_trans hsz0 hb0.size) hb.size) (h3 g hg)⟩, h4⟩) ?_
  case e2 => intro w' hSw; go_simp
  rintro v2 w1 hb1 hS1 ⟨s2, rfl, hv2, hf2⟩
  replace hv1 := hv1.below hb1
  have J1 := (K1'.below hb0 K1'.lt).below hb1 (K1'.below hb0 K1'.lt).lt
  have J2 := (K2'.below hb0 K2'.lt).below hb1 (K2'.below hb0 K2'.lt).lt
  have o1 := whole_one n hv1; have o2 := whole_one false hv2
  simp only [Act.put, List.setIfInBounds_toArray, List.set_cons_zero, List.set_cons_succ]
  refine wpAnyK_putc (i := 6) (g := w.heap.size + 1) (old := whZ) (cs := #[.bool n, s1]) (by kernel_rfl) rfl rfl (by rfl) rfl hSc hS1 J1 (zero_of_info Tryd.infoWhole).2 rfl o1 ?x1 ?y1 (fun w' h => below_setRow h (Nat.le_refl _) _) ?_
  case x1 => go_simp
  case y1 => go_simp
  intro w2 hS2 hfar2 G1
  have I2 := hfar2.blk _ _ _ (by omega) J2
  have hv1' := hv1.far hfar2 (fun g hg => by have := hf1 g hg; omega)
  have hv2' := hv2.far hfar2 (fun g hg => by have := hf2 g hg; omega)
  refine wpAnyK_putc (i := 7) (g := w.heap.size + 1 + 1) (old := whZ) (cs := #[.bool false, s2]) (by kernel_rfl) rfl rfl (by rfl) rfl hSc hS2 I2 (zero_of_info Tryd.infoWhole).2 rfl o2 ?x2 ?y2 (fun w' h => below_setRow h (by omega) _) ?_
  case x2 => go_simp
  case y2 => go_simp
  intro w3 hS3 hfar3 G2
  have I1 := hfar3.blk _ _ _ (by omega) G1
  have hv1'' := hv1'.far hfar3 (fun g hg => by have := hf1 g hg; omega)
  have hv2'' := hv2'.far hfar3 (fun g hg => by have := hf2 g hg; omega)
  refine wpAnyK_done (by kernel_rfl) ?_ _
  intro w4 hb4
  have O1 := Lib.hid (I1.below hb4 I1.lt); have O2 := Lib.hid (G2.below hb4 G2.lt)
  have V1 := Lib.hid (hv1''.below hb4); have V2 := Lib.hid (hv2''.below hb4)
  have Hb4 : Hid (Below w.heap.size w w4) := Hb1.out.trans ((hSc _ _ hS3 hb4).mono (by omega))
  clear hS0 hS0' hS1 hS2 hS3 hb0 hb1 hb4 hv1 hv2 hv1' hv2' hv1'' hv2'' hf1 hf2 hfar2 hfar3 I1 I2 J1 J2 G1 G2 K1' K2' o1 o2 c0 c1 c2 c3 c4 c5 c6 c7 c8 c9 K0 K1 K2 Hb1 C1 C2 hSc
  go_wp2_with fail
  exact bodyPost_ret (results_two_whole rfl _ _ (w.heap.size + 1) (w.heap.size + 1 + 1) 89 89 #[.bool n, s1] #[.bool false, s2] _ rfl rfl O1.out O2.out Tryd.underlying89 rfl (by kernel_rfl) (by kernel_rfl)) rfl ⟨_, _, rfl, V1.out, V2.out, Hb4.out⟩
end Go.Proofs.YtfgeocpooimojaaDoor
namespace Go.Proofs.YtfgeocpooimojaaDoor
open Go Go.RowKit

theorem natS_pos {w : World} {A : Option Addr} {n c N : Nat} (h : NatS w A n c N) : (0 < n) ↔ N ≠ 0 := by
  have := trm_zero h.trm
  omega
theorem dec_sgn {k Z : Nat} (h : (0 < k) ↔ Z ≠ 0) : decide (0 < k) = sgn true Z := by unfold sgn; rw [Bool.eq_iff_iff]; simp [h]
set_option maxHeartbeats 4000000 in
set_option maxRecDepth 100000 in
theorem product_at (n1 : Bool) (A1 A2 : Option Addr) (n m c1 c2 X Y : Nat) (hn : n ≤ 400) (hm : m ≤ 400) (w : World) (h1 : NatS w A1 n c1 X) (h2 : NatS w A2 m c2 Y) :
    Calls Tryd.prog 78 #[.agg #[.bool n1, .slice A1 n c1], .agg #[.bool false, .slice A2 m c2]] w (RetWholeF w (sgn n1 (X * Y)) (X * Y)) := by
  have HB := Lib.hid (blk_start3r w 89 89 89 #[.bool n1, .slice A1 n c1] #[.bool false, .slice A2 m c2] whZ)
  have C := Lib.hid (times_at A1 A2 n m c1 c2 X Y (by omega) (by omega) _ (h1.below HB.out.2.2.2) (h2.below HB.out.2.2.2))
  generalize X * Y = Z at *
  clear h1 h2
  obtain ⟨sg, hsg⟩ : ∃ s, sgn n1 Z = s := ⟨_, rfl⟩
  rw [hsg]
  have HSG := Lib.hid hsg; clear hsg
  go_enter Tryd.func78, Tryd.ntmps78
  go_wp2_with fail
  refine C.out.mono ?_
  rintro e w1 ⟨v, rfl, hv, hf, hb1⟩
  obtain ⟨A, k, c, rfl, hs⟩ := hv
  have K0 := Lib.hid (HB.out.1.below hb1 HB.out.1.lt); have K1 := Lib.hid (HB.out.2.1.below hb1 HB.out.2.1.lt); have K2 := Lib.hid (HB.out.2.2.1.below hb1 HB.out.2.2.1.lt)
  have Hb1 : Hid (Below w.heap.size w w1) := Lib.hid (HB.out.2.2.2.trans (hb1.mono HB.out.2.2.2.size))
  have HF : Hid (∀ g, (Value.slice A k c).ownBlock = some g → g ≠ w.heap.size + 1 + 1) := fun g hg => by have := hf g hg; simp at this; omega
  have HFr : Hid (∀ g, (Value.slice A k c).ownBlock = some g → w.heap.size ≤ g) := fun g hg => by have := hf g hg; simp at this; omega
  have HS := Lib.hid hs
  have c0 := K0.out.cell 0; have d0 := K1.out.cell 0
  simp at c0 d0
  have E : n1 = true → decide (0 < k) = sg := by
    intro h
    rw [← HSG.out, h]
    exact dec_sgn (natS_pos HS.out)
  have E' : n1 = false → sg = false := by intro h; rw [← HSG.out, h]; rfl
  clear hs hf hb1 HB C
  cases n1
  case' false =>
    obtain rfl := E' rfl
    clear E E'
  case' true =>
    have E := E rfl
    clear E'
  all_goals
    go_wp2_with (refine wpList_store_row rfl 89 (.tmp 4) (.tmp 22) rfl (w.heap.size + 1 + 1) #[.bool _, .slice A k c] rfl rfl 89 whZ K2.out (zero_of_info Tryd.infoWhole).2 rfl (by simp [Value.oneCell']) ?_)
    refine bodyPost_ret (results_cell_one rfl _ _ (w.heap.size + 1 + 1) 89 #[.bool _, .slice A k c] _ rfl (K2.out.setRow _) Tryd.underlying89 rfl (by kernel_rfl)) rfl ⟨_, rfl, natV_setRow ⟨_, _, _, rfl, HS.out⟩ HF.out _, HFr.out, below_setRow Hb1.out (by omega) _⟩
set_option maxHeartbeats 4000000 in
theorem minusOf_at (n1 : Bool) (A1 : Option Addr) (n c1 X : Nat) (w : World) (h1 : NatS w A1 n c1 X) :
    Calls Tryd.prog 79 #[.agg #[.bool n1, .slice A1 n c1]] w (RetWhole w (sgn (!n1) X) X) := by
  have HB := Lib.hid (blk_start2 w 89 89 #[.bool n1, .slice A1 n c1] whZ)
  have E : n1 = false → decide (0 < n) = sgn (!n1) X := by
    intro h
    rw [h]
    exact dec_sgn (natS_pos h1)
  have E' : n1 = true → sgn (!n1) X = false := by intro h; rw [h]; rfl
  have HF : Hid (∀ g, (Value.slice A1 n c1).ownBlock = some g → 0 < n → g ≠ w.heap.size + 1) := fun g hg h0 => by
    obtain ⟨ad, e, hb, _⟩ := h1.rd.2 h0
    subst e
    cases hg
    omega
  have HV : Hid (∀ cs, NatV (((w.alloc (.cells #[.bool n1, .slice A1 n c1] 89)).alloc (.cells whZ 89)).setRow (w.heap.size + 1) cs) (.slice A1 n c1) X) := by
    intro cs
    have h2 := h1.below HB.out.2.2
    refine ⟨_, _, _, rfl, h2.cap, h2.top, h2.trm, h2.rd.1, fun h0 => ?_⟩
    obtain ⟨ad, rfl, hb, hc⟩ := h2.rd.2 h0
    refine ⟨ad, rfl, by rw [size_setRow]; exact hb, fun j x hx => ?_⟩
    rw [World.cell?_of_block (setRow_other _ (w.heap.size + 1) _ cs (by rw [block_of_add]; exact HF.out ad.block rfl h0))]
    exact hc j x hx
  obtain ⟨sg, hsg⟩ : ∃ s, sgn (!n1) X = s := ⟨_, rfl⟩
  rw [hsg]
  rw [hsg] at E E'
  clear h1 hsg HF
  cases n1
  case' true =>
    have e := E' rfl
    subst e
    clear E E'
  case' false =>
    have E := E rfl
    clear E'
  all_goals
    go_enter Tryd.func79, Tryd.ntmps79
    go_wp2_with (refine wpList_store_row rfl 89 (.tmp 2) (.tmp 14) rfl (w.heap.size + 1) #[.bool _, .slice A1 n c1] rfl rfl 89 whZ HB.out.2.1 (zero_of_info Tryd.infoWhole).2 rfl (by simp [Value.oneCell']) ?_)
    refine bodyPost_ret (results_cell_one rfl _ _ (w.heap.size + 1) 89 #[.bool _, .slice A1 n c1] _ rfl (HB.out.2.1.setRow _) Tryd.underlying89 rfl (by kernel_rfl)) rfl ⟨_, rfl, HV.out _, below_setRow HB.out.2.2 (by omega) _⟩
end Go.Proofs.YtfgeocpooimojaaDoor
