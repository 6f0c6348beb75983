/-
  Whole structs and arrays in regions that draw their order: a load of a block that is known whole; a new variable that a value is stored into. Conditions: as each theorem states them.
-/
import Derived.Laws.Tables
import Derived.Deep.WholeRow
import Derived.Test.YtfgeocpooimojaaDoorQPfWeightCentres03
namespace Go.Proofs.YtfgeocpooimojaaDoor
open Go Go.RowKit

section
variable {P : Program} {ops : Array Oper} {Q : Exit → Act → World → Prop} {md : Region.Mode} {S : World → Prop}
theorem yields_load_row {o : Oper} {a : Act} {ty : TypeId} {x : Operand} {g : Nat} {t : TypeId} {cs : Array Value} {d : TypeDesc} (hw : Region.wanted o (yielded ops a.tmps) = true) (ho : o.op = .load ty x) (hx : a.eval x = .pointer (some ⟨g, 0, none⟩))
    (hg : ∀ w, S w → Blk w g t cs) (hu : P.underlying ty = some d) (hd : (match d with | .struct _ | .array _ _ => true | _ => false) = true) (hi : (P.info? ty).map (·.size) = some cs.size) : YieldsL P ops S o (.agg cs) a := by
  refine yields_read hw fun w hS => ?_
  unfold execOp
  simp only [ho, hx, Instr.loadAt, Instr.sureAddr, Sem.run_bind, Sem.run_pure, Result.andThen_ok, run_loadVar_row w g t ty cs (0, 0) d (hg w hS) hu hd hi]
theorem wp_alloc_row {o : Oper} {a : Act} {w : World} {K : Act → World → Prop} (ty : TypeId) (ho : o.op = .alloc ty) (z : Array Value) (hz : ∀ w, (zeroValue ty).run P w = .ok (.agg z) w)
    (h : K (a.put o.dst (.pointer (some ⟨w.heap.size, 0, none⟩))) (w.alloc (.cells z ty))) : o.wp P a w K Q := by
  have e : (Instr.alloc ty true (Value.tuple #[])).run P w = .ok (.pointer (some ⟨w.heap.size, 0, none⟩)) (w.alloc (.cells z ty)) := by
    simp [Instr.alloc, hz, newVar, newRow, Value.cells]
  unfold Oper.wp execOp
  simp only [ho, Sem.run_bind, e, Result.andThen_ok, Sem.run_pure]
  exact h
theorem Blk.setRow {w : World} {g : Nat} {t : TypeId} {old : Array Value} (h : Blk w g t old) (cs : Array Value) : Blk (w.setRow g cs) g t cs := setRow_heap w g old cs t (0, 0) h
theorem Blk.farRow {w : World} {g k : Nat} {t : TypeId} {old : Array Value} (h : Blk w g t old) (hne : g ≠ k) (cs : Array Value) : Blk (w.setRow k cs) g t old := (setRow_other w k g cs hne).trans h
theorem below_setRow {B : Nat} {a w : World} (h : Below B a w) {g : Nat} (hg : B ≤ g) (cs : Array Value) : Below B a (w.setRow g cs) :=
  ⟨h.os, h.tape, h.output, by rw [size_setRow]; exact h.size, fun k hk => (setRow_other w g k cs (by omega)).trans (h.block k hk)⟩
/-- A new variable, and a value stored into it, one after the other. -/
theorem wpAnyK_new {i j fuel : Nat} {oi oj : Oper} {listed : Array Bool} {a : Act} {w W : World} {B : Nat} {ty : TypeId} {d : Tmp} {y : Operand} {z cs : Array Value} (hr : Region.ready md ops listed = [i]) (hi : ops[i]? = some oi) (hw : Region.wanted oi (yielded ops a.tmps) = true)
    (hop : oi.op = .alloc ty) (hd : oi.dst = some d) (hz : ∀ w, (zeroValue ty).run P w = .ok (.agg z) w) (hB : B ≤ W.heap.size) (hS : Below B W w)
    (hr2 : Region.ready md ops (listed.setIfInBounds i true) = [j]) (hj : ops[j]? = some oj) (hjop : oj.op = .store ty (.tmp d) y)
    (hsz : (P.info? ty).map (·.size) = some cs.size) (hzs : z.size = cs.size) (hone : cs.all (·.oneCell') = true)
    (hwj : ∀ g, Region.wanted oj (yielded ops (a.put (some d) (.pointer (some ⟨g, 0, none⟩))).tmps) = true)
    (hd' : ∀ g, (a.put (some d) (.pointer (some ⟨g, 0, none⟩))).eval (.tmp d) = .pointer (some ⟨g, 0, none⟩)) (hy : ∀ g, (a.put (some d) (.pointer (some ⟨g, 0, none⟩))).eval y = .agg cs)
    (h : ∀ g w', w.heap.size ≤ g → Below B W w' → Below w.heap.size w w' → Blk w' g ty cs → wpAnyK P md ops Q (fun w' => Below B W w') fuel ((listed.setIfInBounds i true).setIfInBounds j true) ((a.put (some d) (.pointer (some ⟨g, 0, none⟩))).put oj.dst undef) w') :
    wpAnyK P md ops Q (fun w' => Below B W w') (fuel + 2) listed a w := by
  refine wpAnyK_one hr hi hw fun w1 hb1 => ?_
  refine wp_alloc_row ty hop z hz ?_
  have hS1 : Below B W w1 := hS.trans (hb1.mono (Nat.le_trans hB hS.size))
  have hS2 : Below B W (w1.alloc (.cells z ty)) := hS1.alloc (Nat.le_trans hB hS1.size) _
  refine ⟨hS2, ?_⟩
  rw [hd]
  refine wpAnyK_one hr2 hj (hwj _) fun w2 hb2 => ?_
  have D2 : Blk w2 w1.heap.size ty z := (Blk.new w1 ty z).below hb2 (Blk.new w1 ty z).lt
  have hS3 : Below B W w2 := hS2.trans (hb2.mono (Nat.le_trans hB hS2.size))
  refine wp_store_row ty _ y hjop w1.heap.size cs (hd' _) (hy _) ty z D2 hsz hzs hone ?_
  have hg : w.heap.size ≤ w1.heap.size := hb1.size
  have hS4 : Below B W (w2.setRow w1.heap.size cs) := below_setRow hS3 (Nat.le_trans (Nat.le_trans hB hS.size) hg) cs
  have hb4 : Below w.heap.size w (w2.setRow w1.heap.size cs) := below_setRow ((hb1.trans ((Below.refl _ w1).alloc hg (.cells z ty))).trans (hb2.mono (by simp; omega))) hg cs
  exact ⟨hS4, h _ _ hg hS4 hb4 (D2.setRow cs)⟩
theorem new2_store {k l fuel : Nat} {ok ol : Oper} {listed : Array Bool} {a : Act} {w W : World} {B : Nat} {ty ty' : TypeId} {d d' : Tmp} {y y' : Operand} {z z' cs cs' : Array Value} {g h : Nat} (hB : B ≤ W.heap.size) (hS : Below B W w)
    (hr3 : Region.ready md ops listed = [k]) (hk : ops[k]? = some ok) (hkop : ok.op = .store ty (.tmp d) y) (hr4 : Region.ready md ops (listed.setIfInBounds k true) = [l]) (hl : ops[l]? = some ol) (hlop : ol.op = .store ty' (.tmp d') y')
    (hsz : (P.info? ty).map (·.size) = some cs.size) (hzs : z.size = cs.size) (hone : cs.all (·.oneCell') = true) (hsz' : (P.info? ty').map (·.size) = some cs'.size) (hzs' : z'.size = cs'.size) (hone' : cs'.all (·.oneCell') = true)
    (hwk : Region.wanted ok (yielded ops a.tmps) = true) (hwl : Region.wanted ol (yielded ops (a.put ok.dst undef).tmps) = true)
    (hd : a.eval (.tmp d) = .pointer (some ⟨g, 0, none⟩)) (hy : a.eval y = .agg cs) (hd' : (a.put ok.dst undef).eval (.tmp d') = .pointer (some ⟨h, 0, none⟩)) (hy' : (a.put ok.dst undef).eval y' = .agg cs')
    (hG : Blk w g ty z) (hH : Blk w h ty' z') (hne : g ≠ h) {w0 : World} (hb0 : Below w0.heap.size w0 w) (hg0 : w0.heap.size ≤ g) (hh0 : w0.heap.size ≤ h) (hB0 : B ≤ w0.heap.size)
    (H : ∀ w', Below B W w' → Below w0.heap.size w0 w' → Blk w' g ty cs → Blk w' h ty' cs' → wpAnyK P md ops Q (fun w' => Below B W w') fuel ((listed.setIfInBounds k true).setIfInBounds l true) ((a.put ok.dst undef).put ol.dst undef) w') :
    wpAnyK P md ops Q (fun w' => Below B W w') (fuel + 2) listed a w := by
  refine wpAnyK_one hr3 hk hwk fun w1 hb1 => ?_
  have hS1 : Below B W w1 := hS.trans (hb1.mono (Nat.le_trans hB hS.size))
  have G1 : Blk w1 g ty z := hG.below hb1 hG.lt
  have H1 : Blk w1 h ty' z' := hH.below hb1 hH.lt
  have b1 : Below w0.heap.size w0 w1 := hb0.trans (hb1.mono hb0.size)
  refine wp_store_row ty _ y hkop g cs hd hy ty z G1 hsz hzs hone ?_
  have hS2 : Below B W (w1.setRow g cs) := below_setRow hS1 (Nat.le_trans hB0 hg0) cs
  refine ⟨hS2, wpAnyK_one hr4 hl hwl fun w2 hb2 => ?_⟩
  have hS3 : Below B W w2 := hS2.trans (hb2.mono (Nat.le_trans hB hS2.size))
  have G2 : Blk w2 g ty cs := (G1.setRow cs).below hb2 (G1.setRow cs).lt
  have H2 : Blk w2 h ty' z' := (H1.farRow (Ne.symm hne) cs).below hb2 (H1.farRow (Ne.symm hne) cs).lt
  have b2 : Below w0.heap.size w0 w2 := (below_setRow b1 hg0 cs).trans (hb2.mono (by rw [size_setRow]; exact b1.size))
  refine wp_store_row ty' _ y' hlop h cs' hd' hy' ty' z' H2 hsz' hzs' hone' ?_
  have hS4 : Below B W (w2.setRow h cs') := below_setRow hS3 (Nat.le_trans hB0 hh0) cs'
  exact ⟨hS4, H _ hS4 (below_setRow b2 hh0 cs') (G2.farRow hne cs') (H2.setRow cs')⟩
/-- Two new variables, in whatever order, and two values stored into them. -/
theorem wpAnyK_new2 {i j k l fuel : Nat} {oi oj ok ol : Oper} {listed : Array Bool} {a : Act} {w W : World} {B : Nat} {ty ty' : TypeId} {d d' : Tmp} {y y' : Operand} {z z' cs cs' : Array Value} (hij : i ≠ j) (hdd : d ≠ d')
    (hr : Region.ready md ops listed = [i, j]) (hi : ops[i]? = some oi) (hj : ops[j]? = some oj) (hw : Region.wanted oi (yielded ops a.tmps) = true) (hw' : Region.wanted oj (yielded ops a.tmps) = true)
    (hop : oi.op = .alloc ty) (hd : oi.dst = some d) (hop' : oj.op = .alloc ty') (hd' : oj.dst = some d') (hz : ∀ w, (zeroValue ty).run P w = .ok (.agg z) w) (hz' : ∀ w, (zeroValue ty').run P w = .ok (.agg z') w) (hB : B ≤ W.heap.size) (hS : Below B W w)
    (hri : Region.ready md ops (listed.setIfInBounds i true) = [j]) (hrj : Region.ready md ops (listed.setIfInBounds j true) = [i])
    (hr3 : Region.ready md ops ((listed.setIfInBounds i true).setIfInBounds j true) = [k]) (hk : ops[k]? = some ok) (hkop : ok.op = .store ty (.tmp d) y)
    (hr4 : Region.ready md ops (((listed.setIfInBounds i true).setIfInBounds j true).setIfInBounds k true) = [l]) (hl : ops[l]? = some ol) (hlop : ol.op = .store ty' (.tmp d') y')
    (hsz : (P.info? ty).map (·.size) = some cs.size) (hzs : z.size = cs.size) (hone : cs.all (·.oneCell') = true) (hsz' : (P.info? ty').map (·.size) = some cs'.size) (hzs' : z'.size = cs'.size) (hone' : cs'.all (·.oneCell') = true)
    (hwi : ∀ h, Region.wanted oi (yielded ops (a.put (some d') (.pointer (some ⟨h, 0, none⟩))).tmps) = true) (hwj : ∀ g, Region.wanted oj (yielded ops (a.put (some d) (.pointer (some ⟨g, 0, none⟩))).tmps) = true)
    (hwk : ∀ g h, Region.wanted ok (yielded ops ((a.put (some d) (.pointer (some ⟨g, 0, none⟩))).put (some d') (.pointer (some ⟨h, 0, none⟩))).tmps) = true)
    (hwl : ∀ g h, Region.wanted ol (yielded ops (((a.put (some d) (.pointer (some ⟨g, 0, none⟩))).put (some d') (.pointer (some ⟨h, 0, none⟩))).put ok.dst undef).tmps) = true)
    (he : ∀ g h, ((a.put (some d) (.pointer (some ⟨g, 0, none⟩))).put (some d') (.pointer (some ⟨h, 0, none⟩))).eval (.tmp d) = .pointer (some ⟨g, 0, none⟩)) (hy : ∀ g h, ((a.put (some d) (.pointer (some ⟨g, 0, none⟩))).put (some d') (.pointer (some ⟨h, 0, none⟩))).eval y = .agg cs)
    (he' : ∀ g h, (((a.put (some d) (.pointer (some ⟨g, 0, none⟩))).put (some d') (.pointer (some ⟨h, 0, none⟩))).put ok.dst undef).eval (.tmp d') = .pointer (some ⟨h, 0, none⟩)) (hy' : ∀ g h, (((a.put (some d) (.pointer (some ⟨g, 0, none⟩))).put (some d') (.pointer (some ⟨h, 0, none⟩))).put ok.dst undef).eval y' = .agg cs')
    (H : ∀ g h w', w.heap.size ≤ g → w.heap.size ≤ h → g ≠ h → Below B W w' → Below w.heap.size w w' → Blk w' g ty cs → Blk w' h ty' cs' →
      wpAnyK P md ops Q (fun w' => Below B W w') fuel ((((listed.setIfInBounds i true).setIfInBounds j true).setIfInBounds k true).setIfInBounds l true) ((((a.put (some d) (.pointer (some ⟨g, 0, none⟩))).put (some d') (.pointer (some ⟨h, 0, none⟩))).put ok.dst undef).put ol.dst undef) w') :
    wpAnyK P md ops Q (fun w' => Below B W w') (fuel + 4) listed a w := by
  have hBw : B ≤ w.heap.size := Nat.le_trans hB hS.size
  refine wpAnyK_two hr hi hj hw hw' (fun w1 hb1 => ?_) (fun w1 hb1 => ?_)
  · refine wp_alloc_row ty hop z hz ?_
    have hS1 : Below B W w1 := hS.trans (hb1.mono hBw)
    have hS2 : Below B W (w1.alloc (.cells z ty)) := hS1.alloc (Nat.le_trans hB hS1.size) _
    have b1 : Below w.heap.size w (w1.alloc (.cells z ty)) := hb1.alloc hb1.size _
    refine ⟨hS2, ?_⟩
    rw [hd]
    refine wpAnyK_one hri hj (hwj _) fun w2 hb2 => ?_
    refine wp_alloc_row ty' hop' z' hz' ?_
    have hS3 : Below B W w2 := hS2.trans (hb2.mono (Nat.le_trans hB hS2.size))
    have b2 : Below w.heap.size w w2 := b1.trans (hb2.mono b1.size)
    have G2 : Blk w2 w1.heap.size ty z := (Blk.new w1 ty z).below hb2 (Blk.new w1 ty z).lt
    have hlt : w1.heap.size < w2.heap.size := G2.lt
    refine ⟨hS3.alloc (Nat.le_trans hB hS3.size) _, ?_⟩
    rw [hd']
    exact new2_store hB (hS3.alloc (Nat.le_trans hB hS3.size) _) hr3 hk hkop hr4 hl hlop hsz hzs hone hsz' hzs' hone' (hwk _ _) (hwl _ _) (he _ _) (hy _ _) (he' _ _) (hy' _ _) (G2.alloc _) (Blk.new w2 ty' z') (by omega)
      (b2.alloc b2.size _) hb1.size b2.size hBw (fun w' h1 h2 h3 h4 => H _ _ w' hb1.size b2.size (by omega) h1 h2 h3 h4)
  · refine wp_alloc_row ty' hop' z' hz' ?_
    have hS1 : Below B W w1 := hS.trans (hb1.mono hBw)
    have hS2 : Below B W (w1.alloc (.cells z' ty')) := hS1.alloc (Nat.le_trans hB hS1.size) _
    have b1 : Below w.heap.size w (w1.alloc (.cells z' ty')) := hb1.alloc hb1.size _
    refine ⟨hS2, ?_⟩
    rw [hd']
    refine wpAnyK_one hrj hi (hwi _) fun w2 hb2 => ?_
    refine wp_alloc_row ty hop z hz ?_
    have hS3 : Below B W w2 := hS2.trans (hb2.mono (Nat.le_trans hB hS2.size))
    have b2 : Below w.heap.size w w2 := b1.trans (hb2.mono b1.size)
    have G2 : Blk w2 w1.heap.size ty' z' := (Blk.new w1 ty' z').below hb2 (Blk.new w1 ty' z').lt
    have hlt : w1.heap.size < w2.heap.size := G2.lt
    refine ⟨hS3.alloc (Nat.le_trans hB hS3.size) _, ?_⟩
    rw [hd, Act.put_comm (x := some d') (y := some d) a _ _ (fun x hx e => hdd (by injection hx with hx; injection e with e; exact e.trans hx.symm)), Array.setIfInBounds_comm _ _ (Ne.symm hij)]
    exact new2_store hB (hS3.alloc (Nat.le_trans hB hS3.size) _) hr3 hk hkop hr4 hl hlop hsz hzs hone hsz' hzs' hone' (hwk _ _) (hwl _ _) (he _ _) (hy _ _) (he' _ _) (hy' _ _) (Blk.new w2 ty z) (G2.alloc _) (by omega)
      (b2.alloc b2.size _) b2.size hb1.size hBw (fun w' h1 h2 h3 h4 => H _ _ w' b2.size hb1.size (by omega) h1 h2 h3 h4)
/-- One more plain operation alone may come up. -/
theorem wpAnyK_next {i fuel : Nat} {oi : Oper} {v : Value} {listed : Array Bool} {a : Act} {w : World} (hr : Region.ready md ops listed = [i]) (hi : ops[i]? = some oi) (hw : Region.wanted oi (yielded ops a.tmps) = true)
    (hSc : ∀ w w', S w → Below w.heap.size w w' → S w') (hS : S w) (he : ∀ w, S w → (execOp a.eval oi).run P w = .ok (.value v) w) (h : wpAnyK P md ops Q S fuel (listed.setIfInBounds i true) (a.put oi.dst v) w) : wpAnyK P md ops Q S (fuel + 1) listed a w := by
  refine wpAnyK_one hr hi hw fun w1 hb1 => ?_
  unfold Oper.wp
  rw [he w1 (hSc _ _ hS hb1)]
  exact ⟨hSc _ _ hS hb1, wpAnyK_mono _ h hb1⟩
end
end Go.Proofs.YtfgeocpooimojaaDoor
