/-
  Regions that draw their order: a whole value is stored into a variable that was there before. Conditions: as each theorem states them. Regions that draw their order and whose callees only make memory: one walk in the order of the text. Conditions: as each theorem states them. Functions of package wide: compare; Cmp and sign of numbers that are not negative; signed, Valid, Of. Conditions: as each theorem states them. Equality of arrays of four words. Conditions: as each theorem states them.
-/
import Derived.Deep.QuietTactic
import Derived.BigQuiet
import Derived.ChangeKeysEq
import Derived.Test.YtfgeocpooimojaaDoorQPfWeightCentres04
import Derived.Test.YtfgeocpooimojaaDoorQPfWeightCentres00
import Derived.Test.YtfgeocpooimojaaDoorQPfWeightCentres05
import Derived.Test.YtfgeocpooimojaaDoorQPfWeightCentres07
namespace Go.Proofs.YtfgeocpooimojaaDoor
open Go Go.RowKit

section
variable {P : Program} {ops : Array Oper} {Q : Exit → Act → World → Prop} {md : Region.Mode} {S : World → Prop}
/-- Take number 'i' first, its temporary written out. -/
theorem wpAnyK_taked {i : Nat} {oi : Oper} {d : Tmp} {v : Value} {fuel : Nat} {listed : Array Bool} {a : Act} {w : World} (hi : ops[i]? = some oi) (hd : oi.dst = some d)
    (hs : Region.noSelect ops = true) (hf : Region.free md ops listed i = true) (hr : (Region.ready md ops listed).contains i = true)
    (hQ : ∀ c a w, Q (.panic c) (a.put oi.dst v) w → Q (.panic c) a w) (hSc : ∀ w w', S w → Below w.heap.size w w' → S w') (hy : YieldsL P ops S oi v a) (hS : S w)
    (h : wpAnyK P md ops Q S fuel (listed.setIfInBounds i true) (a.put (some d) v) w) : wpAnyK P md ops Q S (fuel + 1) listed a w :=
  wpAnyK_take hi hs hf hr hQ hSc hy hS (by rw [hd]; exact h)
/-- But for block g, what was there is there. -/
structure But (g : Nat) (w w' : World) : Prop where
  blk : ∀ h t c, h ≠ g → Blk w h t c → Blk w' h t c
  below : ∀ B W, B ≤ g → B ≤ w.heap.size → Below B W w → Below B W w'
theorem wpAnyK_put {i fuel : Nat} {oi : Oper} {listed : Array Bool} {a : Act} {w W : World} {B g : Nat} {ty : TypeId} {x y : Operand} {old cs : Array Value} (hr : Region.ready md ops listed = [i]) (hi : ops[i]? = some oi) (hw : Region.wanted oi (yielded ops a.tmps) = true)
    (hop : oi.op = .store ty x y) (hB : B ≤ W.heap.size) (hg : B ≤ g) (hS : Below B W w) (hG : Blk w g ty old) (hsz : (P.info? ty).map (·.size) = some cs.size) (hzs : old.size = cs.size) (hone : cs.all (·.oneCell') = true)
    (hx : a.eval x = .pointer (some ⟨g, 0, none⟩)) (hy : a.eval y = .agg cs)
    (h : ∀ w', Below B W w' → But g w w' → Blk w' g ty cs → wpAnyK P md ops Q (fun w' => Below B W w') fuel (listed.setIfInBounds i true) (a.put oi.dst undef) w') :
    wpAnyK P md ops Q (fun w' => Below B W w') (fuel + 1) listed a w := by
  refine wpAnyK_one hr hi hw fun w1 hb1 => ?_
  have hS1 : Below B W w1 := hS.trans (hb1.mono (Nat.le_trans hB hS.size))
  have G1 : Blk w1 g ty old := hG.below hb1 hG.lt
  refine wp_store_row ty x y hop g cs hx hy ty old G1 hsz hzs hone ?_
  have hS2 : Below B W (w1.setRow g cs) := below_setRow hS1 hg cs
  exact ⟨hS2, h _ hS2 ⟨fun k t c hk hc => (hc.below hb1 hc.lt).farRow hk cs, fun B' W' h1 h2 h3 => below_setRow (h3.trans (hb1.mono h2)) h1 cs⟩ (G1.setRow cs)⟩
theorem But.later {g : Nat} {w w1 w2 : World} (h : But g w w1) (hb : Below w1.heap.size w1 w2) (hs : w.heap.size ≤ w1.heap.size) : But g w w2 :=
  ⟨fun k t c hk hc => (h.blk k t c hk hc).below hb (h.blk k t c hk hc).lt, fun B W h1 h2 h3 => (h.below B W h1 h2 h3).trans (hb.mono (Nat.le_trans h2 hs))⟩
end
end Go.Proofs.YtfgeocpooimojaaDoor
namespace Go.Proofs.YtfgeocpooimojaaDoor
open Go Go.RowKit

/-- The worlds that have only grown since w. -/
def Later (w : World) : Type := { x : World // Below w.heap.size w x }
instance later_nonempty (w : World) : Nonempty (Later w) := ⟨⟨w, Below.refl _ _⟩⟩
theorem later_cell {w : World} (u : Later w) (b o : Nat) (h : b < w.heap.size) : u.val.cell? ⟨b, o, none⟩ = w.cell? ⟨b, o, none⟩ := u.property.cell (p := ⟨b, o, none⟩) h
theorem later_size {w : World} (u : Later w) : w.heap.size ≤ u.val.heap.size := u.property.size
/-- A region that draws its order, whose operations only read what was there and whose callees only make memory: one walk in the order of the text. -/
theorem wp_region_later {P : Program} {id : Nat} {Q : Exit → Act → World → Prop} {a : Act} {w : World} {l : List Oper} (hm : P.follows .mixedOrders = true) (hB : Region.lexB .any l.toArray = true)
    (h : wpQuiet P l.toArray (fun w' => ∃ u : Later w, w' = u.val) (fun a' => ∀ w', (∃ u : Later w, w' = u.val) → Q .normal a' w') l a) : (Code.region id l.toArray true).wp P Q a w :=
  wp_region_quiet (C := fun w' => ∃ u : Later w, w' = u.val) hm hB ⟨⟨_, (Below.refl _ w).drew⟩, rfl⟩ (by simpa using h)
theorem later_call {P : Program} {f : FuncId} {args : Array Value} {w : World} {u : Later w} {v : Value} (h : Calls P f args u.val fun e w' => e = .returned v ∧ Below u.val.heap.size u.val w') :
    Calls P f args u.val fun e w'' => e = .returned v ∧ ∃ u' : Later w, w'' = u'.val :=
  h.mono fun _ w' ⟨he, hb⟩ => ⟨he, ⟨w', u.property.trans (hb.mono u.property.size)⟩, rfl⟩
theorem later_same {P : Program} {f : FuncId} {args : Array Value} {w : World} {u : Later w} {v : Value} (h : Calls P f args u.val fun e w' => e = .returned v ∧ u.val = w') :
    Calls P f args u.val fun e w'' => e = .returned v ∧ ∃ u' : Later w, w'' = u'.val :=
  h.mono fun _ _ ⟨he, hb⟩ => ⟨he, u, hb.symm⟩

end Go.Proofs.YtfgeocpooimojaaDoor
namespace Go.Proofs.YtfgeocpooimojaaDoor
open Go Go.RowKit

theorem cmp_lessW {x y k : Nat} (h : upW x (k + 1) = upW y (k + 1)) (hd : wd x k < wd y k) : cmpN x y = -1 := by
  have h1 := upW_step x k
  have h2 := upW_step y k
  have : upW x k < upW y k := by omega
  unfold cmpN
  rw [if_pos]
  rcases Nat.lt_or_ge x y with h | h
  · exact h
  · have := Nat.div_le_div_right (c := pw k) h
    unfold upW at *; omega
theorem cmp_moreW {x y k : Nat} (h : upW x (k + 1) = upW y (k + 1)) (hd : wd y k < wd x k) : cmpN x y = 1 := by
  rw [cmp_swap, cmp_lessW h.symm hd]; rfl
set_option maxHeartbeats 1000000 in
theorem wideCompare_at (x y : Nat) (hx : x < top256) (hy : y < top256) (w : World) : Calls Tryd.prog 70 #[.agg (magC x), .agg (magC y)] w fun e w' => e = .returned (.int .i64 (cmpN x y)) ∧ Below w.heap.size w w' := by
  have HB := Lib.hid ((Blk.new w 33 (magC x)).alloc (.cells (magC y) 33))
  have HC : Hid (Blk ((w.alloc (.cells (magC x) 33)).alloc (.cells (magC y) 33)) (w.heap.size + 1) 33 (magC y)) := by
    have := Blk.new (w.alloc (.cells (magC x) 33)) 33 (magC y)
    simpa [Hid] using this
  have HT : Hid (upW x 4 = upW y 4) := by unfold Hid; rw [upW_top x hx, upW_top y hy]
  clear hx hy
  go_enter Tryd.func70, Tryd.ntmps70
  go_wp2_with fail
  go_loopw [5] (fun i wr => ∃ k : Nat, k ≤ 4 ∧ i = .int .i64 ((k : Int) - 1) ∧ Hid (upW x k = upW y k) ∧ Hid (Blk wr w.heap.size 33 (magC x)) ∧ Hid (Blk wr (w.heap.size + 1) 33 (magC y)) ∧ Hid (Below w.heap.size w wr)) (fun i _ => (intOf i + 1).toNat)
  case atStart => exact ⟨4, by omega, rfl, HT, HB.out, HC.out, by unfold Hid; go_grown⟩
  case round =>
    obtain ⟨k, hk, rfl, HU, HX, HY, Hb⟩ := hrel
    clear HB HC HT
    match k, hk, HU with
    | 0, hk, HU =>
      have E : Hid (cmpN x y = 0) := by unfold Hid; have h : x = y := by simpa [upW_zero] using HU.out
                                        rw [h]; exact cmp_same
      go_wp2_with fail
      go_ret
      exact ⟨ret_int E.out.symm, Hb.out⟩
    | m + 1, hk, HU =>
      have e : (((m + 1 : Nat) : Int) - 1) = (m : Int) := by omega
      rw [e]
      clear e
      have i0 : (0 : Int) ≤ (m : Int) := by omega
      have i1 : (m : Int) < 4 := by omega
      have cx : wr.cell? ⟨w.heap.size, m, none⟩ = some (.int .u64 (wd x m : Nat)) := (HX.out.cell m).trans (magC_get x m (by omega))
      have cy : wr.cell? ⟨w.heap.size + 1, m, none⟩ = some (.int .u64 (wd y m : Nat)) := (HY.out.cell m).trans (magC_get y m (by omega))
      rcases Nat.lt_trichotomy (wd x m) (wd y m) with h | h | h
      · have E := Lib.hid (cmp_lessW HU.out h)
        have b1 : decide (wd x m < wd y m) = true := by simpa using h
        clear h
        go_wp2_with fail
        go_quiet (fail)
        go_wp2_with fail
        go_ret
        exact ⟨ret_int E.out.symm, below_drewN Hb.out _⟩
      · have HU' : Hid (upW x m = upW y m) := by unfold Hid; rw [upW_step x m, upW_step y m, HU.out, h]
        have b1 : decide (wd x m < wd y m) = false := by simp; omega
        have b2 : decide (wd y m < wd x m) = false := by simp; omega
        clear h
        go_wp2_with fail
        go_quiet (fail)
        have HX2 : Hid (Blk (wr.drewN nq) w.heap.size 33 (magC x)) := HX.out
        have HY2 : Hid (Blk (wr.drewN nq) (w.heap.size + 1) 33 (magC y)) := HY.out
        have Hb2 : Hid (Below w.heap.size w (wr.drewN nq)) := below_drewN Hb.out nq
        have cx2 : (wr.drewN nq).cell? ⟨w.heap.size, m, none⟩ = some (.int .u64 (wd x m : Nat)) := cx
        have cy2 : (wr.drewN nq).cell? ⟨w.heap.size + 1, m, none⟩ = some (.int .u64 (wd y m : Nat)) := cy
        clear HX HY Hb cx cy
        generalize wr.drewN nq = w2 at *
        go_wp2_with fail
        go_quiet (fail)
        go_wp2_with fail
        go_roundw
        case rel => exact ⟨m, by omega, rfl, HU', HX2.out, HY2.out, below_drewN Hb2.out _⟩
        case measure => simp [intOf]
      · have E := Lib.hid (cmp_moreW HU.out h)
        have b1 : decide (wd x m < wd y m) = false := by simp; omega
        have b2 : decide (wd y m < wd x m) = true := by simpa using h
        clear h
        go_wp2_with fail
        go_quiet (fail)
        have HX2 : Hid (Blk (wr.drewN nq) w.heap.size 33 (magC x)) := HX.out
        have HY2 : Hid (Blk (wr.drewN nq) (w.heap.size + 1) 33 (magC y)) := HY.out
        have Hb2 : Hid (Below w.heap.size w (wr.drewN nq)) := below_drewN Hb.out nq
        have cx2 : (wr.drewN nq).cell? ⟨w.heap.size, m, none⟩ = some (.int .u64 (wd x m : Nat)) := cx
        have cy2 : (wr.drewN nq).cell? ⟨w.heap.size + 1, m, none⟩ = some (.int .u64 (wd y m : Nat)) := cy
        clear HX HY Hb cx cy
        generalize wr.drewN nq = w2 at *
        go_wp2_with fail
        go_quiet (fail)
        go_wp2_with fail
        go_ret
        exact ⟨ret_int E.out.symm, below_drewN Hb2.out _⟩

abbrev wideS (n : Bool) (x : Nat) : Array Value := #[.bool n, .int .u64 (x : Nat), .int .u64 0, .int .u64 0, .int .u64 0]
abbrev magS (x : Nat) : Array Value := #[.int .u64 (x : Nat), .int .u64 0, .int .u64 0, .int .u64 0]
theorem magC_small (x : Nat) (h : x < 18446744073709551616) : magC x = magS x := by
  have := wideC_small false x h
  simp only [wideC, Array.mk.injEq, List.cons.injEq] at this
  simp only [magC, magS, Array.mk.injEq, List.cons.injEq]
  exact this.2
theorem small_top {x : Nat} (h : x < 18446744073709551616) : x < top256 := Nat.lt_of_lt_of_le h (by decide)
theorem magS_one (x : Nat) : (magS x).all (·.oneCell') = true := by simp [Value.oneCell']
theorem wideS_one (n : Bool) (x : Nat) : (wideS n x).all (·.oneCell') = true := by simp [Value.oneCell']
theorem Tryd.infoMag : (Tryd.prog.info? 33).map (fun i => (i.zero, i.size)) = some (some (.agg (magS 0)), 4) := by kernel_rfl
theorem Tryd.infoWid : (Tryd.prog.info? 35).map (fun i => (i.zero, i.size)) = some (some (.agg wideZ), 5) := by kernel_rfl
theorem wideNegative_at (x : Nat) (w : World) : Calls Tryd.prog 69 #[.agg (wideS false x)] w fun e w' => e = .returned (.bool false) ∧ Below w.heap.size w w' := by
  go_enter Tryd.func69, Tryd.ntmps69
  go_wp2_with fail
  go_ret
  exact ⟨rfl, by go_grown⟩
set_option maxHeartbeats 1000000 in
theorem wideCmp_at (x y : Nat) (hx : x < 18446744073709551616) (hy : y < 18446744073709551616) (w : World) : Calls Tryd.prog 47 #[.agg (wideS false x), .agg (wideS false y)] w fun e w' => e = .returned (.int .i64 (cmpN x y)) ∧ Below w.heap.size w w' := by
  have CC : Hid (∀ W, Calls Tryd.prog 70 #[.agg (magS x), .agg (magS y)] W fun e w' => e = .returned (.int .i64 (cmpN x y)) ∧ Below W.heap.size W w') := fun W => by
    rw [← magC_small x hx, ← magC_small y hy]; exact wideCompare_at x y (small_top hx) (small_top hy) W
  have K0 := (Blk.new w 35 (wideS false x)).alloc (.cells (wideS false y) 35)
  have K1 : Blk ((w.alloc (.cells (wideS false x) 35)).alloc (.cells (wideS false y) 35)) (w.heap.size + 1) 35 (wideS false y) := by
    have := Blk.new (w.alloc (.cells (wideS false x) 35)) 35 (wideS false y)
    simpa using this
  have H0 := Lib.hid K0; have H1 := Lib.hid K1
  clear hx hy K0 K1
  go_enter Tryd.func47, Tryd.ntmps47
  go_wp2_with fail
  have Hb0 : Hid (Below w.heap.size w ((w.alloc (.cells (wideS false x) 35)).alloc (.cells (wideS false y) 35))) := by unfold Hid; go_grown
  generalize (w.alloc (.cells (wideS false x) 35)).alloc (.cells (wideS false y) 35) = W at *
  have c0 := H0.out.cell 0; have c1 := H0.out.cell 1; have c2 := H0.out.cell 2; have c3 := H0.out.cell 3; have c4 := H0.out.cell 4
  have d0 := H1.out.cell 0; have d1 := H1.out.cell 1; have d2 := H1.out.cell 2; have d3 := H1.out.cell 3; have d4 := H1.out.cell 4
  simp at c0 c1 c2 c3 c4 d0 d1 d2 d3 d4
  have lc := @later_cell W
  have lg := H0.out.lt
  have lh := H1.out.lt
  refine wp_region_later (by kernel_rfl) (by kernel_rfl) ?_
  repeat (go_big_quiet_step ((go_at_call 69; exact later_call (wideNegative_at _ _))))
  refine wpQuiet_nil ?_
  intro _ hw'
  obtain ⟨u, rfl⟩ := hw'
  have Hb3 := Lib.hid (Hb0.out.trans (u.property.mono Hb0.out.size))
  have J0 := Lib.hid (H0.out.below u.property H0.out.lt); have J1 := Lib.hid (H1.out.below u.property H1.out.lt)
  clear c0 c1 c2 c3 c4 d0 d1 d2 d3 d4 lc lg lh H0 H1 Hb0
  generalize u.val = w3 at *
  have c1 := J0.out.cell 1; have c2 := J0.out.cell 2; have c3 := J0.out.cell 3; have c4 := J0.out.cell 4
  have d1 := J1.out.cell 1; have d2 := J1.out.cell 2; have d3 := J1.out.cell 3; have d4 := J1.out.cell 4
  simp at c1 c2 c3 c4 d1 d2 d3 d4
  go_wp2_with fail
  refine (CC.out _).mono ?_
  rintro e w4 ⟨rfl, hb4⟩
  go_wp2_with fail
  go_ret
  exact ⟨rfl, Hb3.out.trans (hb4.mono Hb3.out.size)⟩
theorem ratioSign_at (x : Nat) (hx : x < 18446744073709551616) (w : World) : Calls Tryd.prog 46 #[.agg (wideS false x)] w fun e w' => e = .returned (.int .i64 (cmpN x 0)) ∧ Below w.heap.size w w' := by
  have C := Lib.hid (fun W => wideCmp_at x 0 hx (by decide) W)
  clear hx
  go_enter Tryd.func46, Tryd.ntmps46
  go_wp2_with fail
  refine (C.out _).mono ?_
  rintro e w1 ⟨rfl, hb⟩
  go_wp2_with fail
  go_ret
  exact ⟨rfl, Below.trans (by go_grown) (hb.mono (by simp))⟩
end Go.Proofs.YtfgeocpooimojaaDoor
namespace Go.Proofs.YtfgeocpooimojaaDoor
open Go Go.RowKit

set_option maxRecDepth 100000 in
theorem run_eqi (a b : Int) (w : World) : (Op.equalIn 9999 32 (.int .u64 a) (.int .u64 b)).run Tryd.prog w = .ok (a == b) w := by
  exact run_equalIn_int w 9998 32 .u64 .u64 a b Tryd.underlying32
set_option maxRecDepth 100000 in
theorem run_part (xs : Array Value) (j : Nat) (v : Value) (h : xs[j]? = some v) (w : World) : (part 32 xs j).run Tryd.prog w = .ok v w := by
  simp [part, Tryd.isAgg32, h]
theorem run_item (xs ys : Array Value) (j : Nat) (is : List Nat) (a b : Int) (hx : xs[j]? = some (.int .u64 a)) (hy : ys[j]? = some (.int .u64 b)) (w : World) :
    (Op.eqItems 9999 32 1 xs ys (j :: is)).run Tryd.prog w = if a == b then (Op.eqItems 9999 32 1 xs ys is).run Tryd.prog w else .ok false w := by
  simp only [Op.eqItems, Sem.run_bind, Nat.mul_one, run_part xs j _ hx, run_part ys j _ hy, Result.andThen_ok, run_eqi]
  cases h : a == b <;> simp
theorem Tryd.infoU64 : (Tryd.prog.info? 32).map (fun i => (i.zero, i.size, i.bytes)) = some (some (.int .u64 0), 1, 8) := by kernel_rfl
set_option maxRecDepth 100000 in
theorem run_eqIn_mag (a b c d a' b' c' d' : Int) (w : World) : (Op.equalIn 10000 33 (.agg #[.int .u64 a, .int .u64 b, .int .u64 c, .int .u64 d]) (.agg #[.int .u64 a', .int .u64 b', .int .u64 c', .int .u64 d'])).run Tryd.prog w = .ok (a == a' && b == b' && c == c' && d == d') w := by
  obtain ⟨i, hi, _, _, _⟩ := info_parts Tryd.infoU64
  have hc : Tryd.prog.cellsOf 32 = 1 := by kernel_rfl
  rw [run_equalIn_array w 9999 _ _ Tryd.underlying33 hi, hc, show List.range 4 = [0, 1, 2, 3] from rfl]
  rw [run_item _ _ 0 _ a a' rfl rfl, run_item _ _ 1 _ b b' rfl rfl, run_item _ _ 2 _ c c' rfl rfl, run_item _ _ 3 _ d d' rfl rfl]
  simp only [Op.eqItems, Sem.run_pure]
  cases a == a' <;> cases b == b' <;> cases c == c' <;> cases d == d' <;> rfl
theorem eq_magS (x y : Nat) (w : World) : (Op.equalIn 10000 33 (.agg (magS x)) (.agg (magS y))).run Tryd.prog w = .ok (x == y) w := by
  rw [run_eqIn_mag]
  simp
  rw [Bool.eq_iff_iff, beq_iff_eq, beq_iff_eq]
  omega
end Go.Proofs.YtfgeocpooimojaaDoor
