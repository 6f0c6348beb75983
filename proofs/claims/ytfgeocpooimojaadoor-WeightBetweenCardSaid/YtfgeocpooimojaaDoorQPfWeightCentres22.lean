/-
  Regions that draw their order: the worlds in which some blocks are known whole, and nothing below a block has changed. Conditions: as each theorem states them. Div of package wide where the division is exact, and over of package ratio. Conditions: as each theorem states them.
-/
import Derived.Test.YtfgeocpooimojaaDoorQPfWeightCentres17
import Derived.Test.YtfgeocpooimojaaDoorQPfWeightCentres21
namespace Go.Proofs.YtfgeocpooimojaaDoor
open Go Go.RowKit

/-- Below block B the world is W's, and the blocks on the list are known whole. -/
def Held (B : Nat) (W : World) (l : List (Nat × TypeId × Array Value)) (w : World) : Prop := Below B W w ∧ ∀ x ∈ l, Blk w x.1 x.2.1 x.2.2
section
variable {P : Program} {ops : Array Oper} {Q : Exit → Act → World → Prop} {md : Region.Mode} {S : World → Prop} {B : Nat} {W : World} {l : List (Nat × TypeId × Array Value)}
theorem Held.grow (hB : B ≤ W.heap.size) : ∀ w w', Held B W l w → Below w.heap.size w w' → Held B W l w' := fun _ _ h hb =>
  ⟨h.1.trans (hb.mono (Nat.le_trans hB h.1.size)), fun x hx => (h.2 x hx).below hb (h.2 x hx).lt⟩
theorem Held.set_ {w : World} (h : Held B W l w) {g : Nat} (hg : B ≤ g) (hl : ∀ x ∈ l, x.1 ≠ g) (cs : Array Value) : Held B W l (w.setRow g cs) :=
  ⟨below_setRow h.1 hg cs, fun x hx => (h.2 x hx).farRow (hl x hx) cs⟩
theorem Held.cell {w : World} (h : Held B W l w) {g : Nat} {t : TypeId} {cs : Array Value} (hm : (g, t, cs) ∈ l) (i : Nat) : w.cell? ⟨g, i, none⟩ = cs[i]? := (h.2 _ hm).cell i
theorem Held.drew {w : World} (h : Held B W l w) : Held B W l { w with drawn := w.drawn + 1 } := ⟨h.1.drew, fun x hx => h.2 x hx⟩
/-- A whole value is stored into a variable that is there. -/
theorem wpAnyK_puts {i fuel : Nat} {oi : Oper} {listed : Array Bool} {a : Act} {w : World} {g : Nat} {ty : TypeId} {x y : Operand} {old cs : Array Value} (hr : Region.ready md ops listed = [i]) (hi : ops[i]? = some oi) (hd : oi.dst = none) (hw : Region.wanted oi (yielded ops a.tmps) = true)
    (hop : oi.op = .store ty x y) (hSc : ∀ w w', S w → Below w.heap.size w w' → S w') (hS : S w) (hG : Blk w g ty old) (hsz : (P.info? ty).map (·.size) = some cs.size) (hzs : old.size = cs.size) (hone : cs.all (·.oneCell') = true)
    (hx : a.eval x = .pointer (some ⟨g, 0, none⟩)) (hy : a.eval y = .agg cs) (hset : ∀ w', S w' → S (w'.setRow g cs))
    (h : ∀ w', S w' → But g w w' → Blk w' g ty cs → wpAnyK P md ops Q S fuel (listed.setIfInBounds i true) a w') :
    wpAnyK P md ops Q S (fuel + 1) listed a w := by
  refine wpAnyK_one hr hi hw fun w1 hb1 => ?_
  have G1 : Blk w1 g ty old := hG.below hb1 hG.lt
  refine wp_store_row ty x y hop g cs hx hy ty old G1 hsz hzs hone ?_
  have hS2 := hset w1 (hSc _ _ hS hb1)
  rw [hd]
  exact ⟨hS2, h _ hS2 ⟨fun k t c hk hc => (hc.below hb1 hc.lt).farRow hk cs, fun B' W' h1 h2 h3 => below_setRow (h3.trans (hb1.mono h2)) h1 cs⟩ (G1.setRow cs)⟩
end
end Go.Proofs.YtfgeocpooimojaaDoor
namespace Go.Proofs.YtfgeocpooimojaaDoor
open Go Go.RowKit

theorem results_cct {P : Program} {fn : Func} {p q t : Tmp} {ty : TypeId} (h : fn.results = #[.cell p ty, .cell q ty, .tmp t]) (tmps : Array Value) (w : World) (g1 g2 : Nat) (t1 t2 : TypeId) (c1 c2 : Array Value) (d : TypeDesc)
    (hp : tmps.getD p undef = .pointer (some ⟨g1, 0, none⟩)) (hq : tmps.getD q undef = .pointer (some ⟨g2, 0, none⟩)) (b1 : Blk w g1 t1 c1) (b2 : Blk w g2 t2 c2)
    (hu : P.underlying ty = some d) (hd : (match d with | .struct _ | .array _ _ => true | _ => false) = true) (i1 : (P.info? ty).map (·.size) = some c1.size) (i2 : (P.info? ty).map (·.size) = some c2.size) :
    (results fn tmps).run P w = .ok (.tuple #[.agg c1, .agg c2, tmps.getD t undef]) w := by
  have hp' : tmps[p]?.getD undef = .pointer (some ⟨g1, 0, none⟩) := by simpa using hp
  have hq' : tmps[q]?.getD undef = .pointer (some ⟨g2, 0, none⟩) := by simpa using hq
  simp [results, h, hp', hq', asAddr, run_loadVar_row w g1 t1 ty c1 (0, 0) d b1 hu hd i1, run_loadVar_row w g2 t2 ty c2 (0, 0) d b2 hu hd i2]
set_option maxHeartbeats 4000000 in
set_option maxRecDepth 100000 in
theorem wideDiv_at (n : Bool) (x g q : Nat) (hx : x < 18446744073709551616) (hg : g < 9223372036854775808) (hg0 : 0 < g) (hq : x = g * q) (w : World) :
    Calls Tryd.prog 98 #[.agg (wideS n x), .agg (wideS false g)] w fun e w' => e = .returned (.tuple #[.agg (wideS (sgn n q) q), .agg (wideS false 0), .int .i64 0]) ∧ Below w.heap.size w w' := by
  have HB := Lib.hid (blk_start4 w 35 35 35 35 (wideS n x) (wideS false g) wideZ wideZ)
  have CD : Hid (∀ W, Calls Tryd.prog 104 #[.agg (magS x), .agg (magS g)] W fun e w' => e = .returned (.tuple #[.agg (magS q), .agg (magS 0)]) ∧ Below W.heap.size W w') := fun W => by
    have := wideDivide_at x g hx hg hg0 W
    rw [show x / g = q by rw [hq, Nat.mul_div_cancel_left _ hg0], show x % g = 0 by rw [hq, Nat.mul_mod_right]] at this
    exact this
  have CS := Lib.hid (wideSigned_at n q)
  have CT : Hid (∀ W, Calls Tryd.prog 72 #[.bool false, .agg (magS 0)] W fun e w' => e = .returned (.agg (wideS false 0)) ∧ Below W.heap.size W w') := fun W => wideSigned_at false 0 W
  have eq1 : ∀ w, (Op.equalIn 10000 33 (.agg (magS g)) (.agg #[.int .u64 0, .int .u64 0, .int .u64 0, .int .u64 0])).run Tryd.prog w = .ok false w := fun w => by
    have := eq_magS g 0 w
    rw [show (g == 0) = false by simp; omega] at this
    exact this
  have eq2 : ∀ w, (Op.equalIn 10000 33 (.agg #[.int .u64 0, .int .u64 0, .int .u64 0, .int .u64 0]) (.agg #[.int .u64 0, .int .u64 0, .int .u64 0, .int .u64 0])).run Tryd.prog w = .ok true w := eq_magS 0 0
  clear hx hg hg0 hq
  go_enter Tryd.func98, Tryd.ntmps98
  go_wp2_with fail
  refine (CD.out _).mono ?_
  rintro e w1 ⟨rfl, hb1⟩
  have K1 := Lib.hid (HB.out.1.below hb1 HB.out.1.lt)
  have K2 := Lib.hid (HB.out.2.1.below hb1 HB.out.2.1.lt)
  have K3 := Lib.hid (HB.out.2.2.1.below hb1 HB.out.2.2.1.lt)
  have K4 := Lib.hid (HB.out.2.2.2.below hb1 HB.out.2.2.2.lt)
  have Hb1 : Hid (Below w.heap.size w w1) := Lib.hid (Below.trans (by go_grown) (hb1.mono (by simp; omega)))
  clear hb1 HB CD eq1
  have l4 := K4.out.lt
  have l1 := K1.out.lt
  have l2 := K2.out.lt
  have l1' : w.heap.size < w1.heap.size + 1 := by omega
  have l2' : w.heap.size + 1 < w1.heap.size + 1 := by omega
  have a0 := K1.out.cell 0
  have b0 := K2.out.cell 0
  simp at a0 b0
  have Q7 : Hid (Blk ((w1.alloc (.cells (magS q) 33)).alloc (.cells #[.int .u64 0, .int .u64 0, .int .u64 0, .int .u64 0] 33)) w1.heap.size 33 (magS q)) := Lib.hid (blk_start2 w1 33 33 (magS q) #[.int .u64 0, .int .u64 0, .int .u64 0, .int .u64 0]).1
  have Q8 : Hid (Blk ((w1.alloc (.cells (magS q) 33)).alloc (.cells #[.int .u64 0, .int .u64 0, .int .u64 0, .int .u64 0] 33)) (w1.heap.size + 1) 33 (magS 0)) := Lib.hid (blk_start2 w1 33 33 (magS q) #[.int .u64 0, .int .u64 0, .int .u64 0, .int .u64 0]).2.1
  cases n
  · go_wp2_with fail
    have J1 := Lib.hid ((K1.out.alloc (.cells (magS q) 33)).alloc (.cells #[.int .u64 0, .int .u64 0, .int .u64 0, .int .u64 0] 33))
    have J2 := Lib.hid ((K2.out.alloc (.cells (magS q) 33)).alloc (.cells #[.int .u64 0, .int .u64 0, .int .u64 0, .int .u64 0] 33))
    have J3 := Lib.hid ((K3.out.alloc (.cells (magS q) 33)).alloc (.cells #[.int .u64 0, .int .u64 0, .int .u64 0, .int .u64 0] 33))
    have J4 := Lib.hid ((K4.out.alloc (.cells (magS q) 33)).alloc (.cells #[.int .u64 0, .int .u64 0, .int .u64 0, .int .u64 0] 33))
    have Hb2 : Hid (Below w.heap.size w ((w1.alloc (.cells (magS q) 33)).alloc (.cells #[.int .u64 0, .int .u64 0, .int .u64 0, .int .u64 0] 33))) := by
      have := Hb1.out
      have := this.size
      unfold Hid
      go_grown
    clear K1 K2 K3 K4 Hb1 a0 b0 eq2
    obtain ⟨g7, hg7⟩ : ∃ g7, g7 = w1.heap.size := ⟨_, rfl⟩
    obtain ⟨g8, hg8⟩ : ∃ g8, g8 = w1.heap.size + 1 := ⟨_, rfl⟩
    rw [← hg8, ← hg7]
    rw [← hg7] at Q7 l4
    rw [← hg8] at Q8
    have l8 : g7 < g8 := by omega
    clear hg7 hg8
    generalize (w1.alloc (.cells (magS q) 33)).alloc (.cells #[.int .u64 0, .int .u64 0, .int .u64 0, .int .u64 0] 33) = W at *
    have hB : w.heap.size ≤ W.heap.size := Hb2.out.size
    have hS0 : Held w.heap.size W [(w.heap.size, 35, wideS false x), (w.heap.size + 1, 35, wideS false g), (g7, 33, magS q), (g8, 33, magS 0)] { W with drawn := W.drawn + 1 } := ⟨(Below.refl _ W).drew, by
      intro x hx
      simp only [List.mem_cons, List.not_mem_nil, or_false] at hx
      rcases hx with rfl | rfl | rfl | rfl
      · exact J1.out
      · exact J2.out
      · exact Q7.out
      · exact Q8.out⟩
    have k1 : ∀ w', Held w.heap.size W [(w.heap.size, 35, wideS false x), (w.heap.size + 1, 35, wideS false g), (g7, 33, magS q), (g8, 33, magS 0)] w' → w'.cell? ⟨w.heap.size, 0, none⟩ = some (.bool false) := fun w' h => (h.cell (.head _) 0).trans rfl
    have k2 : ∀ w', Held w.heap.size W [(w.heap.size, 35, wideS false x), (w.heap.size + 1, 35, wideS false g), (g7, 33, magS q), (g8, 33, magS 0)] w' → w'.cell? ⟨w.heap.size + 1, 0, none⟩ = some (.bool false) := fun w' h => (h.cell (.tail _ (.head _)) 0).trans rfl
    have m0 : ∀ w', Held w.heap.size W [(w.heap.size, 35, wideS false x), (w.heap.size + 1, 35, wideS false g), (g7, 33, magS q), (g8, 33, magS 0)] w' → w'.cell? ⟨g7, 0, none⟩ = some (.int .u64 (q : Nat)) := fun w' h => (h.cell (.tail _ (.tail _ (.head _))) 0).trans rfl
    have m1 : ∀ w', Held w.heap.size W [(w.heap.size, 35, wideS false x), (w.heap.size + 1, 35, wideS false g), (g7, 33, magS q), (g8, 33, magS 0)] w' → w'.cell? ⟨g7, 1, none⟩ = some (.int .u64 0) := fun w' h => (h.cell (.tail _ (.tail _ (.head _))) 1).trans rfl
    have m2 : ∀ w', Held w.heap.size W [(w.heap.size, 35, wideS false x), (w.heap.size + 1, 35, wideS false g), (g7, 33, magS q), (g8, 33, magS 0)] w' → w'.cell? ⟨g7, 2, none⟩ = some (.int .u64 0) := fun w' h => (h.cell (.tail _ (.tail _ (.head _))) 2).trans rfl
    have m3 : ∀ w', Held w.heap.size W [(w.heap.size, 35, wideS false x), (w.heap.size + 1, 35, wideS false g), (g7, 33, magS q), (g8, 33, magS 0)] w' → w'.cell? ⟨g7, 3, none⟩ = some (.int .u64 0) := fun w' h => (h.cell (.tail _ (.tail _ (.head _))) 3).trans rfl
    have z0 : ∀ w', Held w.heap.size W [(w.heap.size, 35, wideS false x), (w.heap.size + 1, 35, wideS false g), (g7, 33, magS q), (g8, 33, magS 0)] w' → w'.cell? ⟨g8, 0, none⟩ = some (.int .u64 0) := fun w' h => (h.cell (.tail _ (.tail _ (.tail _ (.head _)))) 0).trans rfl
    have z1 : ∀ w', Held w.heap.size W [(w.heap.size, 35, wideS false x), (w.heap.size + 1, 35, wideS false g), (g7, 33, magS q), (g8, 33, magS 0)] w' → w'.cell? ⟨g8, 1, none⟩ = some (.int .u64 0) := fun w' h => (h.cell (.tail _ (.tail _ (.tail _ (.head _)))) 1).trans rfl
    have z2 : ∀ w', Held w.heap.size W [(w.heap.size, 35, wideS false x), (w.heap.size + 1, 35, wideS false g), (g7, 33, magS q), (g8, 33, magS 0)] w' → w'.cell? ⟨g8, 2, none⟩ = some (.int .u64 0) := fun w' h => (h.cell (.tail _ (.tail _ (.tail _ (.head _)))) 2).trans rfl
    have z3 : ∀ w', Held w.heap.size W [(w.heap.size, 35, wideS false x), (w.heap.size + 1, 35, wideS false g), (g7, 33, magS q), (g8, 33, magS 0)] w' → w'.cell? ⟨g8, 3, none⟩ = some (.int .u64 0) := fun w' h => (h.cell (.tail _ (.tail _ (.tail _ (.head _)))) 3).trans rfl
    refine wp_region_Kn (n := 14) (S := Held (w.heap.size) W [(w.heap.size, 35, wideS false x), (w.heap.size + 1, 35, wideS false g), (g7, 33, magS q), (g8, 33, magS 0)]) rfl (by kernel_rfl) ?_
    refine wpAnyK_taked (i := 0) (oi := _) (v := ?_) rfl rfl (by kernel_rfl) (by kernel_rfl) (by kernel_rfl) (fun _ _ _ h => h) (Held.grow hB) (yields_read (by rfl) ?hy0) hS0 ?_
    rotate_left
    case hy0 =>
      intro w' hSw
      go_simp
      try with_reducible rfl
    simp only [Act.put, List.setIfInBounds_toArray, List.set_cons_zero, List.set_cons_succ]
    refine wpAnyK_taked (i := 1) (oi := _) (v := ?_) rfl rfl (by kernel_rfl) (by kernel_rfl) (by kernel_rfl) (fun _ _ _ h => h) (Held.grow hB) (yields_read (by rfl) ?hy1) hS0 ?_
    rotate_left
    case hy1 =>
      intro w' hSw
      go_simp
      try with_reducible rfl
    simp only [Act.put, List.setIfInBounds_toArray, List.set_cons_zero, List.set_cons_succ]
    refine wpAnyK_taked (i := 2) (oi := _) (v := ?_) rfl rfl (by kernel_rfl) (by kernel_rfl) (by kernel_rfl) (fun _ _ _ h => h) (Held.grow hB) (yields_read (by rfl) ?hy2) hS0 ?_
    rotate_left
    case hy2 =>
      intro w' hSw
      go_simp
      try with_reducible rfl
    simp only [Act.put, List.setIfInBounds_toArray, List.set_cons_zero, List.set_cons_succ]
    refine wpAnyK_taked (i := 3) (oi := _) (v := ?_) rfl rfl (by kernel_rfl) (by kernel_rfl) (by kernel_rfl) (fun _ _ _ h => h) (Held.grow hB) (yields_read (by rfl) ?hy3) hS0 ?_
    rotate_left
    case hy3 =>
      intro w' hSw
      go_simp
      try with_reducible rfl
    simp only [Act.put, List.setIfInBounds_toArray, List.set_cons_zero, List.set_cons_succ]
    refine wpAnyK_taked (i := 4) (oi := _) (v := ?_) rfl rfl (by kernel_rfl) (by kernel_rfl) (by kernel_rfl) (fun _ _ _ h => h) (Held.grow hB) (yields_read (by rfl) ?hy4) hS0 ?_
    rotate_left
    case hy4 =>
      intro w' hSw
      go_simp
      try with_reducible rfl
    simp only [Act.put, List.setIfInBounds_toArray, List.set_cons_zero, List.set_cons_succ]
    refine wpAnyK_taked (i := 5) (oi := _) (v := ?_) rfl rfl (by kernel_rfl) (by kernel_rfl) (by kernel_rfl) (fun _ _ _ h => h) (Held.grow hB) (yields_read (by rfl) ?hy5) hS0 ?_
    rotate_left
    case hy5 =>
      intro w' hSw
      go_simp
      try with_reducible rfl
    simp only [Act.put, List.setIfInBounds_toArray, List.set_cons_zero, List.set_cons_succ]
    refine wpAnyK_taked (i := 6) (oi := _) (v := _) rfl rfl (by kernel_rfl) (by kernel_rfl) (by kernel_rfl) (fun _ _ _ h => h) (Held.grow hB) (yields_call (by rfl) ?hy6 fun w _ => CS.out w) hS0 ?_
    case hy6 =>
      intro w' hSw
      go_simp
      try with_reducible rfl
    simp only [Act.put, List.setIfInBounds_toArray, List.set_cons_zero, List.set_cons_succ]
    refine wpAnyK_taked (i := 7) (oi := _) (v := ?_) rfl rfl (by kernel_rfl) (by kernel_rfl) (by kernel_rfl) (fun _ _ _ h => h) (Held.grow hB) (yields_read (by rfl) ?hy7) hS0 ?_
    rotate_left
    case hy7 =>
      intro w' hSw
      go_simp
      try with_reducible rfl
    simp only [Act.put, List.setIfInBounds_toArray, List.set_cons_zero, List.set_cons_succ]
    refine wpAnyK_taked (i := 8) (oi := _) (v := ?_) rfl rfl (by kernel_rfl) (by kernel_rfl) (by kernel_rfl) (fun _ _ _ h => h) (Held.grow hB) (yields_read (by rfl) ?hy8) hS0 ?_
    rotate_left
    case hy8 =>
      intro w' hSw
      go_simp
      try with_reducible rfl
    simp only [Act.put, List.setIfInBounds_toArray, List.set_cons_zero, List.set_cons_succ]
    refine wpAnyK_taked (i := 9) (oi := _) (v := ?_) rfl rfl (by kernel_rfl) (by kernel_rfl) (by kernel_rfl) (fun _ _ _ h => h) (Held.grow hB) (yields_read (by rfl) ?hy9) hS0 ?_
    rotate_left
    case hy9 =>
      intro w' hSw
      go_simp
      try with_reducible rfl
    simp only [Act.put, List.setIfInBounds_toArray, List.set_cons_zero, List.set_cons_succ]
    refine wpAnyK_taked (i := 10) (oi := _) (v := _) rfl rfl (by kernel_rfl) (by kernel_rfl) (by kernel_rfl) (fun _ _ _ h => h) (Held.grow hB) (yields_call (by rfl) ?hy10 fun w _ => CT.out w) hS0 ?_
    case hy10 =>
      intro w' hSw
      go_simp
      try with_reducible rfl
    simp only [Act.put, List.setIfInBounds_toArray, List.set_cons_zero, List.set_cons_succ]
    clear k1 k2 m0 m1 m2 m3 z0 z1 z2 z3 CS CT
    refine wpAnyK_puts (i := 11) (g := w.heap.size + 1 + 1) (cs := wideS (sgn false q) q) (by kernel_rfl) rfl rfl (by rfl) rfl (Held.grow hB) hS0 J3.out (zero_of_info Tryd.infoWid).2 rfl (wideS_one _ _) ?hx1 ?hy1 ?hs1 ?_
    case hx1 => go_simp
    case hy1 => go_simp
    case hs1 =>
      intro w' h
      refine h.set_ (by omega) ?_ _
      intro x hx
      simp only [List.mem_cons, List.not_mem_nil, or_false] at hx
      rcases hx with rfl | rfl | rfl | rfl <;> (simp only; omega)
    intro w2 hS2 bt2 G3
    refine wpAnyK_puts (i := 12) (g := w.heap.size + 1 + 1 + 1) (cs := wideS false 0) (by kernel_rfl) rfl rfl (by rfl) rfl (Held.grow hB) hS2 (bt2.blk _ _ _ (by omega) J4.out) (zero_of_info Tryd.infoWid).2 rfl (wideS_one _ _) ?hx2 ?hy2 ?hs2 ?_
    case hx2 => go_simp
    case hy2 => go_simp
    case hs2 =>
      intro w' h
      refine h.set_ (by omega) ?_ _
      intro x hx
      simp only [List.mem_cons, List.not_mem_nil, or_false] at hx
      rcases hx with rfl | rfl | rfl | rfl <;> (simp only; omega)
    intro w3 hS3 bt3 G4
    refine wpAnyK_nextd (i := 13) (v := ?_) (by kernel_rfl) rfl rfl (by rfl) (Held.grow hB) hS3 ?hn ?_
    rotate_left
    case hn =>
      intro w' hSw
      go_simp
      try with_reducible rfl
    refine wpAnyK_done (by kernel_rfl) ?_ _
    intro w4 hb4
    have G3' := Lib.hid (bt3.blk _ _ _ (by omega) G3)
    have G5 := Lib.hid (G3'.out.below hb4 G3'.out.lt)
    have G6 := Lib.hid (G4.below hb4 G4.lt)
    have Hb4 := Lib.hid (Hb2.out.trans ((Held.grow hB _ _ hS3 hb4).1.mono (Nat.le_refl _)))
    clear hb4 G3' G4 G3 bt3 bt2 hS3 hS2 hS0 J1 J2 J3 J4 Q7 Q8 Hb2
    simp only [Act.put, List.setIfInBounds_toArray, List.set_cons_zero, List.set_cons_succ]
    go_wp2_with fail
    refine bodyPost_ret (results_cct rfl _ _ (w.heap.size + 1 + 1) (w.heap.size + 1 + 1 + 1) 35 35 (wideS (sgn false q) q) (wideS false 0) _ rfl rfl G5.out G6.out Tryd.underlying35 rfl (by kernel_rfl) (by kernel_rfl)) rfl ⟨rfl, Hb4.out⟩
  · go_wp2_with fail
    have J1 := Lib.hid ((K1.out.alloc (.cells (magS q) 33)).alloc (.cells #[.int .u64 0, .int .u64 0, .int .u64 0, .int .u64 0] 33))
    have J2 := Lib.hid ((K2.out.alloc (.cells (magS q) 33)).alloc (.cells #[.int .u64 0, .int .u64 0, .int .u64 0, .int .u64 0] 33))
    have J3 := Lib.hid ((K3.out.alloc (.cells (magS q) 33)).alloc (.cells #[.int .u64 0, .int .u64 0, .int .u64 0, .int .u64 0] 33))
    have J4 := Lib.hid ((K4.out.alloc (.cells (magS q) 33)).alloc (.cells #[.int .u64 0, .int .u64 0, .int .u64 0, .int .u64 0] 33))
    have Hb2 : Hid (Below w.heap.size w ((w1.alloc (.cells (magS q) 33)).alloc (.cells #[.int .u64 0, .int .u64 0, .int .u64 0, .int .u64 0] 33))) := by
      have := Hb1.out
      have := this.size
      unfold Hid
      go_grown
    clear K1 K2 K3 K4 Hb1 a0 b0 eq2
    obtain ⟨g7, hg7⟩ : ∃ g7, g7 = w1.heap.size := ⟨_, rfl⟩
    obtain ⟨g8, hg8⟩ : ∃ g8, g8 = w1.heap.size + 1 := ⟨_, rfl⟩
    rw [← hg8, ← hg7]
    rw [← hg7] at Q7 l4
    rw [← hg8] at Q8
    have l8 : g7 < g8 := by omega
    clear hg7 hg8
    generalize (w1.alloc (.cells (magS q) 33)).alloc (.cells #[.int .u64 0, .int .u64 0, .int .u64 0, .int .u64 0] 33) = W at *
    have hB : w.heap.size ≤ W.heap.size := Hb2.out.size
    have hS0 : Held w.heap.size W [(w.heap.size, 35, wideS true x), (w.heap.size + 1, 35, wideS false g), (g7, 33, magS q), (g8, 33, magS 0)] { W with drawn := W.drawn + 1 } := ⟨(Below.refl _ W).drew, by
      intro x hx
      simp only [List.mem_cons, List.not_mem_nil, or_false] at hx
      rcases hx with rfl | rfl | rfl | rfl
      · exact J1.out
      · exact J2.out
      · exact Q7.out
      · exact Q8.out⟩
    have k1 : ∀ w', Held w.heap.size W [(w.heap.size, 35, wideS true x), (w.heap.size + 1, 35, wideS false g), (g7, 33, magS q), (g8, 33, magS 0)] w' → w'.cell? ⟨w.heap.size, 0, none⟩ = some (.bool true) := fun w' h => (h.cell (.head _) 0).trans rfl
    have k2 : ∀ w', Held w.heap.size W [(w.heap.size, 35, wideS true x), (w.heap.size + 1, 35, wideS false g), (g7, 33, magS q), (g8, 33, magS 0)] w' → w'.cell? ⟨w.heap.size + 1, 0, none⟩ = some (.bool false) := fun w' h => (h.cell (.tail _ (.head _)) 0).trans rfl
    have m0 : ∀ w', Held w.heap.size W [(w.heap.size, 35, wideS true x), (w.heap.size + 1, 35, wideS false g), (g7, 33, magS q), (g8, 33, magS 0)] w' → w'.cell? ⟨g7, 0, none⟩ = some (.int .u64 (q : Nat)) := fun w' h => (h.cell (.tail _ (.tail _ (.head _))) 0).trans rfl
    have m1 : ∀ w', Held w.heap.size W [(w.heap.size, 35, wideS true x), (w.heap.size + 1, 35, wideS false g), (g7, 33, magS q), (g8, 33, magS 0)] w' → w'.cell? ⟨g7, 1, none⟩ = some (.int .u64 0) := fun w' h => (h.cell (.tail _ (.tail _ (.head _))) 1).trans rfl
    have m2 : ∀ w', Held w.heap.size W [(w.heap.size, 35, wideS true x), (w.heap.size + 1, 35, wideS false g), (g7, 33, magS q), (g8, 33, magS 0)] w' → w'.cell? ⟨g7, 2, none⟩ = some (.int .u64 0) := fun w' h => (h.cell (.tail _ (.tail _ (.head _))) 2).trans rfl
    have m3 : ∀ w', Held w.heap.size W [(w.heap.size, 35, wideS true x), (w.heap.size + 1, 35, wideS false g), (g7, 33, magS q), (g8, 33, magS 0)] w' → w'.cell? ⟨g7, 3, none⟩ = some (.int .u64 0) := fun w' h => (h.cell (.tail _ (.tail _ (.head _))) 3).trans rfl
    have z0 : ∀ w', Held w.heap.size W [(w.heap.size, 35, wideS true x), (w.heap.size + 1, 35, wideS false g), (g7, 33, magS q), (g8, 33, magS 0)] w' → w'.cell? ⟨g8, 0, none⟩ = some (.int .u64 0) := fun w' h => (h.cell (.tail _ (.tail _ (.tail _ (.head _)))) 0).trans rfl
    have z1 : ∀ w', Held w.heap.size W [(w.heap.size, 35, wideS true x), (w.heap.size + 1, 35, wideS false g), (g7, 33, magS q), (g8, 33, magS 0)] w' → w'.cell? ⟨g8, 1, none⟩ = some (.int .u64 0) := fun w' h => (h.cell (.tail _ (.tail _ (.tail _ (.head _)))) 1).trans rfl
    have z2 : ∀ w', Held w.heap.size W [(w.heap.size, 35, wideS true x), (w.heap.size + 1, 35, wideS false g), (g7, 33, magS q), (g8, 33, magS 0)] w' → w'.cell? ⟨g8, 2, none⟩ = some (.int .u64 0) := fun w' h => (h.cell (.tail _ (.tail _ (.tail _ (.head _)))) 2).trans rfl
    have z3 : ∀ w', Held w.heap.size W [(w.heap.size, 35, wideS true x), (w.heap.size + 1, 35, wideS false g), (g7, 33, magS q), (g8, 33, magS 0)] w' → w'.cell? ⟨g8, 3, none⟩ = some (.int .u64 0) := fun w' h => (h.cell (.tail _ (.tail _ (.tail _ (.head _)))) 3).trans rfl
    refine wp_region_Kn (n := 14) (S := Held (w.heap.size) W [(w.heap.size, 35, wideS true x), (w.heap.size + 1, 35, wideS false g), (g7, 33, magS q), (g8, 33, magS 0)]) rfl (by kernel_rfl) ?_
    refine wpAnyK_taked (i := 0) (oi := _) (v := ?_) rfl rfl (by kernel_rfl) (by kernel_rfl) (by kernel_rfl) (fun _ _ _ h => h) (Held.grow hB) (yields_read (by rfl) ?hy0) hS0 ?_
    rotate_left
    case hy0 =>
      intro w' hSw
      go_simp
      try with_reducible rfl
    simp only [Act.put, List.setIfInBounds_toArray, List.set_cons_zero, List.set_cons_succ]
    refine wpAnyK_taked (i := 1) (oi := _) (v := ?_) rfl rfl (by kernel_rfl) (by kernel_rfl) (by kernel_rfl) (fun _ _ _ h => h) (Held.grow hB) (yields_read (by rfl) ?hy1) hS0 ?_
    rotate_left
    case hy1 =>
      intro w' hSw
      go_simp
      try with_reducible rfl
    simp only [Act.put, List.setIfInBounds_toArray, List.set_cons_zero, List.set_cons_succ]
    refine wpAnyK_taked (i := 2) (oi := _) (v := ?_) rfl rfl (by kernel_rfl) (by kernel_rfl) (by kernel_rfl) (fun _ _ _ h => h) (Held.grow hB) (yields_read (by rfl) ?hy2) hS0 ?_
    rotate_left
    case hy2 =>
      intro w' hSw
      go_simp
      try with_reducible rfl
    simp only [Act.put, List.setIfInBounds_toArray, List.set_cons_zero, List.set_cons_succ]
    refine wpAnyK_taked (i := 3) (oi := _) (v := ?_) rfl rfl (by kernel_rfl) (by kernel_rfl) (by kernel_rfl) (fun _ _ _ h => h) (Held.grow hB) (yields_read (by rfl) ?hy3) hS0 ?_
    rotate_left
    case hy3 =>
      intro w' hSw
      go_simp
      try with_reducible rfl
    simp only [Act.put, List.setIfInBounds_toArray, List.set_cons_zero, List.set_cons_succ]
    refine wpAnyK_taked (i := 4) (oi := _) (v := ?_) rfl rfl (by kernel_rfl) (by kernel_rfl) (by kernel_rfl) (fun _ _ _ h => h) (Held.grow hB) (yields_read (by rfl) ?hy4) hS0 ?_
    rotate_left
    case hy4 =>
      intro w' hSw
      go_simp
      try with_reducible rfl
    simp only [Act.put, List.setIfInBounds_toArray, List.set_cons_zero, List.set_cons_succ]
    refine wpAnyK_taked (i := 5) (oi := _) (v := ?_) rfl rfl (by kernel_rfl) (by kernel_rfl) (by kernel_rfl) (fun _ _ _ h => h) (Held.grow hB) (yields_read (by rfl) ?hy5) hS0 ?_
    rotate_left
    case hy5 =>
      intro w' hSw
      go_simp
      try with_reducible rfl
    simp only [Act.put, List.setIfInBounds_toArray, List.set_cons_zero, List.set_cons_succ]
    refine wpAnyK_taked (i := 6) (oi := _) (v := _) rfl rfl (by kernel_rfl) (by kernel_rfl) (by kernel_rfl) (fun _ _ _ h => h) (Held.grow hB) (yields_call (by rfl) ?hy6 fun w _ => CS.out w) hS0 ?_
    case hy6 =>
      intro w' hSw
      go_simp
      try with_reducible rfl
    simp only [Act.put, List.setIfInBounds_toArray, List.set_cons_zero, List.set_cons_succ]
    refine wpAnyK_taked (i := 7) (oi := _) (v := ?_) rfl rfl (by kernel_rfl) (by kernel_rfl) (by kernel_rfl) (fun _ _ _ h => h) (Held.grow hB) (yields_read (by rfl) ?hy7) hS0 ?_
    rotate_left
    case hy7 =>
      intro w' hSw
      go_simp
      try with_reducible rfl
    simp only [Act.put, List.setIfInBounds_toArray, List.set_cons_zero, List.set_cons_succ]
    refine wpAnyK_taked (i := 8) (oi := _) (v := ?_) rfl rfl (by kernel_rfl) (by kernel_rfl) (by kernel_rfl) (fun _ _ _ h => h) (Held.grow hB) (yields_read (by rfl) ?hy8) hS0 ?_
    rotate_left
    case hy8 =>
      intro w' hSw
      go_simp
      try with_reducible rfl
    simp only [Act.put, List.setIfInBounds_toArray, List.set_cons_zero, List.set_cons_succ]
    refine wpAnyK_taked (i := 9) (oi := _) (v := ?_) rfl rfl (by kernel_rfl) (by kernel_rfl) (by kernel_rfl) (fun _ _ _ h => h) (Held.grow hB) (yields_read (by rfl) ?hy9) hS0 ?_
    rotate_left
    case hy9 =>
      intro w' hSw
      go_simp
      try with_reducible rfl
    simp only [Act.put, List.setIfInBounds_toArray, List.set_cons_zero, List.set_cons_succ]
    refine wpAnyK_taked (i := 10) (oi := _) (v := _) rfl rfl (by kernel_rfl) (by kernel_rfl) (by kernel_rfl) (fun _ _ _ h => h) (Held.grow hB) (yields_call (by rfl) ?hy10 fun w _ => CT.out w) hS0 ?_
    case hy10 =>
      intro w' hSw
      go_simp
      try with_reducible rfl
    simp only [Act.put, List.setIfInBounds_toArray, List.set_cons_zero, List.set_cons_succ]
    clear k1 k2 m0 m1 m2 m3 z0 z1 z2 z3 CS CT
    refine wpAnyK_puts (i := 11) (g := w.heap.size + 1 + 1) (cs := wideS (sgn true q) q) (by kernel_rfl) rfl rfl (by rfl) rfl (Held.grow hB) hS0 J3.out (zero_of_info Tryd.infoWid).2 rfl (wideS_one _ _) ?hx1 ?hy1 ?hs1 ?_
    case hx1 => go_simp
    case hy1 => go_simp
    case hs1 =>
      intro w' h
      refine h.set_ (by omega) ?_ _
      intro x hx
      simp only [List.mem_cons, List.not_mem_nil, or_false] at hx
      rcases hx with rfl | rfl | rfl | rfl <;> (simp only; omega)
    intro w2 hS2 bt2 G3
    refine wpAnyK_puts (i := 12) (g := w.heap.size + 1 + 1 + 1) (cs := wideS false 0) (by kernel_rfl) rfl rfl (by rfl) rfl (Held.grow hB) hS2 (bt2.blk _ _ _ (by omega) J4.out) (zero_of_info Tryd.infoWid).2 rfl (wideS_one _ _) ?hx2 ?hy2 ?hs2 ?_
    case hx2 => go_simp
    case hy2 => go_simp
    case hs2 =>
      intro w' h
      refine h.set_ (by omega) ?_ _
      intro x hx
      simp only [List.mem_cons, List.not_mem_nil, or_false] at hx
      rcases hx with rfl | rfl | rfl | rfl <;> (simp only; omega)
    intro w3 hS3 bt3 G4
    refine wpAnyK_nextd (i := 13) (v := ?_) (by kernel_rfl) rfl rfl (by rfl) (Held.grow hB) hS3 ?hn ?_
    rotate_left
    case hn =>
      intro w' hSw
      go_simp
      try with_reducible rfl
    refine wpAnyK_done (by kernel_rfl) ?_ _
    intro w4 hb4
    have G3' := Lib.hid (bt3.blk _ _ _ (by omega) G3)
    have G5 := Lib.hid (G3'.out.below hb4 G3'.out.lt)
    have G6 := Lib.hid (G4.below hb4 G4.lt)
    have Hb4 := Lib.hid (Hb2.out.trans ((Held.grow hB _ _ hS3 hb4).1.mono (Nat.le_refl _)))
    clear hb4 G3' G4 G3 bt3 bt2 hS3 hS2 hS0 J1 J2 J3 J4 Q7 Q8 Hb2
    simp only [Act.put, List.setIfInBounds_toArray, List.set_cons_zero, List.set_cons_succ]
    go_wp2_with fail
    refine bodyPost_ret (results_cct rfl _ _ (w.heap.size + 1 + 1) (w.heap.size + 1 + 1 + 1) 35 35 (wideS (sgn true q) q) (wideS false 0) _ rfl rfl G5.out G6.out Tryd.underlying35 rfl (by kernel_rfl) (by kernel_rfl)) rfl ⟨rfl, Hb4.out⟩
end Go.Proofs.YtfgeocpooimojaaDoor
