/-
  The library's table of trailing zeros lies in its variable, if the listed variables read as listed. Conditions: as each theorem states them. Arguments opened to cells: structs of five numbers by value, slices of such structs; the row's last step where the call has only made memory. Conditions: as each theorem states them. Weights and lists of weights among the arguments, opened. Conditions: as each theorem states them. Arguments that lie below the worlds' growth read as before, all at once. Conditions: as each theorem states them.
-/
import Derived.Test.YtfgeocpooimojaaDoorRows
import Derived.MakeChecks
import Derived.OpenShut
import Derived.ChangeBears2
import Derived.ProofKit
import Derived.LaidMore
import Derived.Stop.Joined
import Derived.Test.YtfgeocpooimojaaDoorChecked
import Derived.Test.YtfgeocpooimojaaDoorQPfWeightCentres23
import Derived.Test.YtfgeocpooimojaaDoorQPfWeightCentres00
import Derived.Test.YtfgeocpooimojaaDoorQPfWeightCentres12
namespace Go.Proofs.YtfgeocpooimojaaDoor
open Go Go.RowKit

set_option maxRecDepth 100000 in
theorem tab_of_laid {W : World} (h : laidMet Tryd.prog [("math/bits.deBruijn64tab", Rows.laid_math_bits_deBruijn64tab)] W) : Tab W := by
  obtain ⟨ps, ⟨g, t, cs, fuel, p, q, hg, ht, hv, htr, _, _⟩, _, _⟩ := h
  obtain rfl : tabG = g := Option.some.inj ((show Tryd.prog.globalNamed "math/bits.deBruijn64tab" = some tabG by kernel_rfl).symm.trans hg)
  obtain rfl : 129 = t := Option.some.inj ((show (Tryd.prog.globals[tabG]?).map (·.type) = some 129 by kernel_rfl).symm.trans ht)
  have hcell : ∀ j, W.cell? ⟨tabG, j, none⟩ = cs[j]? := fun j => World.var?_cell hg hv j
  have hlen : Lib.deBruijn64tab.length = 64 := by decide
  have hdat : (Rows.laid_math_bits_deBruijn64tab : DataW Unit) = .agg (Lib.deBruijn64tab.map fun n => .lit (.int .u8 (n : Nat))) := by kernel_rfl
  have hc1 : Tryd.prog.cellsOf 5 = 1 := by kernel_rfl
  obtain ⟨xs, m, _, hx, hl, hxl, hi⟩ := DataW.trod_array Tryd.underlying129 htr
  rw [hdat] at hx
  have hmap : Lib.deBruijn64tab.map (fun n => (DataW.lit (.int .u8 (n : Nat)) : DataW Unit)) = xs.map (·.1) := by
    injection hx with h1 _
    injection h1
  have hlt : tabG < W.heap.size := by
    have hj : cs[0]? = cs.toList[0]? := by simp
    have h64 : cs.toList.length = 64 := hl.trans (by kernel_rfl)
    have hs : W.cell? ⟨tabG, 0, none⟩ = some (cs.toList[0]'(by omega)) := by rw [hcell 0, hj]; exact List.getElem?_eq_getElem _
    exact block_lt_of_cell hs
  refine ⟨fun j hj => ?_, hlt⟩
  rw [hlen] at hj
  have h1 := hi j hj
  rw [hc1, Nat.mul_one] at h1
  have hxj : xs[j]? = some (xs[j]'(by omega)) := List.getElem?_eq_getElem _
  rw [hxj] at h1
  obtain ⟨n, hn, hy, _⟩ := DataW.trod_int Tryd.underlying5 h1
  have hget : (xs.map (·.1))[j]? = some (.lit (.int .u8 n)) := by rw [List.getElem?_map, hxj, hy]; rfl
  rw [← hmap, List.getElem?_map, List.getElem?_eq_getElem (by omega)] at hget
  have hv' : ((Lib.deBruijn64tab[j]'(by omega) : Nat) : Int) = n := by simpa using hget
  rw [hcell j]
  have h2 : cs.toList[j]? = some (.int .u8 n) := by
    have : ((cs.toList.drop j).take 1)[0]? = some (.int .u8 n) := by rw [hn]; rfl
    simpa using this
  have h3 : cs[j]? = some (.int .u8 n) := by simpa using h2
  rw [h3, ← hv']
  simp [List.getD_eq_getElem?_getD, List.getElem?_eq_getElem (show j < Lib.deBruijn64tab.length by omega)]
end Go.Proofs.YtfgeocpooimojaaDoor
namespace Go.Proofs.YtfgeocpooimojaaDoor
open Go Go.RowKit Go.ChangeShapes Go.WideShapes Go.ChangeAt Go.Deep Go.Joins

section
variable {H : Type} {enc : TypeId × Value → H} {P : Program} {w : World} {base : Nat} {spare : Nat → Bool} {held : Bool}
theorem open_slice_fields {t e : TypeId} {fs : Array Field} {fuel : Nat} {cs : List Value} {x : DataW H × List MemPlace} (ht : P.underlying t = some (.slice e)) (he : P.underlying e = some (.struct fs))
    (hone : oneCellFields P fs = true) (hC : P.cellsOf e = fs.size) (h : DataW.trod enc P w base spare held fuel t cs = some x) :
    (cs = [.slice none 0 0] ∧ x = (.nil, [])) ∨
    ∃ (a : Addr) (len cap m : Nat) (D : Nat → DataW H) (Pl : Nat → List MemPlace), cs = [.slice (some a) len cap] ∧ base ≤ a.block ∧ len ≤ cap ∧ cap ≤ maxLen ∧ m = (if spare a.block then cap else len) ∧
      x = (.slice ((List.range len).map D) ((List.range (m - len)).map fun j => D (len + j)), MemPlace.row a (m * fs.size) ++ (List.range m).flatMap Pl) ∧
      ∀ i, i < m → ∃ (ys : List (DataW H × List MemPlace)) (n : Nat), D i = .agg (ys.map (·.1)) ∧ Pl i = ys.flatMap (·.2) ∧ ys.length = fs.size ∧
        ∀ (j : Nat) (f : Field), fs[j]? = some f → ∃ (v : Value) (y : DataW H × List MemPlace), w.cell? (a.add (i * fs.size + j)) = some v ∧ ys[j]? = some y ∧ DataW.trod enc P w base spare held n f.type [v] = some y := by
  rcases open_slice ht h with h0 | ⟨a, len, cap, m, n, D, Pl, hcs, hb, hl, hm, hmm, hx, hi⟩
  · exact .inl h0
  · refine .inr ⟨a, len, cap, m, D, Pl, hcs, hb, hl, hm, hmm, by rw [hC] at hx; exact hx, fun i him => ?_⟩
    obtain ⟨cs', hc, ht'⟩ := hi i him
    rw [hC] at hc
    obtain ⟨ys, n', hn', hy, hlen, hyl, hf⟩ := DataW.trod_struct he ht'
    obtain ⟨_, hcl, hat⟩ := World.cells?_some hc
    simp only [Prod.mk.injEq] at hy
    refine ⟨ys, n', hy.1, hy.2, hyl, fun j f hj => ?_⟩
    obtain ⟨ho, hk⟩ := hone_of hone j f hj
    have hjl : j < fs.size := (Array.getElem?_eq_some_iff.1 hj).1
    have hcell := hat j hjl
    have hv : cs'[j]? = some (cs'[j]'(by omega)) := List.getElem?_eq_getElem (by omega)
    have h1 := hf j f hj
    rw [ho, hk] at h1
    have hone' : (cs'.drop j).take 1 = [cs'[j]'(by omega)] := by
      rw [List.drop_eq_getElem_cons (by omega)]
      rfl
    rw [hone'] at h1
    have hys : ys[j]? = some (ys[j]'(by omega)) := List.getElem?_eq_getElem (by omega)
    refine ⟨_, _, ?_, hys, h1.trans hys⟩
    rw [← Go.Deep.add_add, hcell, hv]

theorem open_agg5 {r : Reach} {b0 : Nat} {t : TypeId} {f0 f1 f2 f3 f4 : Field} {v : Value} {d : DataW H} {p : List MemPlace} (hs : P.underlying t = some (.struct #[f0, f1, f2, f3, f4])) (hone : oneCellFields P #[f0, f1, f2, f3, f4] = true) (hC : P.cellsOf t = 5)
    (hv : Value.okWide P w r b0 t v) (h : DataW.Trod enc P w base spare held t v d p) :
    ∃ (v0 v1 v2 v3 v4 : Value) (y0 y1 y2 y3 y4 : DataW H × List MemPlace) (n : Nat), v = .agg #[v0, v1, v2, v3, v4] ∧ d = .agg [y0.1, y1.1, y2.1, y3.1, y4.1] ∧ p = y0.2 ++ (y1.2 ++ (y2.2 ++ (y3.2 ++ y4.2))) ∧
      DataW.trod enc P w base spare held n f0.type [v0] = some y0 ∧ DataW.trod enc P w base spare held n f1.type [v1] = some y1 ∧ DataW.trod enc P w base spare held n f2.type [v2] = some y2 ∧ DataW.trod enc P w base spare held n f3.type [v3] = some y3 ∧ DataW.trod enc P w base spare held n f4.type [v4] = some y4 := by
  obtain ⟨cs, rfl, hsz⟩ := okWide_struct hs hv
  obtain ⟨l⟩ := cs
  match l, hsz.trans hC with
  | [c0, c1, c2, c3, c4], _ =>
    obtain ⟨fuel, hf⟩ := h
    obtain ⟨xs, n, _, hx, _, hlen, hg⟩ := DataW.trod_struct hs hf
    obtain ⟨o0, k0⟩ := hone_of hone 0 f0 rfl
    obtain ⟨o1, k1⟩ := hone_of hone 1 f1 rfl
    obtain ⟨o2, k2⟩ := hone_of hone 2 f2 rfl
    obtain ⟨o3, k3⟩ := hone_of hone 3 f3 rfl
    obtain ⟨o4, k4⟩ := hone_of hone 4 f4 rfl
    match xs, hlen with
    | [y0, y1, y2, y3, y4], _ =>
      simp only [Prod.mk.injEq] at hx
      exact ⟨c0, c1, c2, c3, c4, y0, y1, y2, y3, y4, n, rfl, by simpa using hx.1, by simpa using hx.2, by simpa [Value.cells, o0, k0] using hg 0 f0 rfl, by simpa [Value.cells, o1, k1] using hg 1 f1 rfl, by simpa [Value.cells, o2, k2] using hg 2 f2 rfl, by simpa [Value.cells, o3, k3] using hg 3 f3 rfl, by simpa [Value.cells, o4, k4] using hg 4 f4 rfl⟩

theorem post_of_below {f : Func} {s : ChangeSpec} {apart fresh handsOn again : Bool} {W W' : World} {args : Array Value} {v : Value} {ds gs : List (DataW H)} {before pa pv : List MemPlace}
    (hW : DataW.Whole enc P f.params.toList s.vars apart W args.toList ds gs before)
    (hres : ∀ (b : Nat) (sp : Nat → Bool) (hd : Bool), DataW.TrodAll enc P W' b sp hd f.resultTypes.toList (v.resultList f.resultTypes.size) (s.fn H (ds ++ gs)).results [])
    (hargs : ∀ sp : Nat → Bool, (∀ p ∈ before, sp p.block = true) → DataW.TrodAll enc P W' 0 sp true f.params.toList args.toList (s.fn H (ds ++ gs)).args pa)
    (hvars : ∀ sp : Nat → Bool, (∀ p ∈ before, sp p.block = true) → DataW.TrodVars enc P W' sp s.vars (s.fn H (ds ++ gs)).vars pv)
    (hps : before = pa ++ pv) (hb : Below W.heap.size W W')
    (hok : ∀ (j : Nat) (t : TypeId) (r : Value), f.resultTypes[j]? = some t → (v.resultList f.resultTypes.size)[j]? = some r → Value.okWide P W' .any 0 t r) :
    s.post enc P f apart fresh handsOn again W args v W' := by
  have hlt : ∀ p ∈ before, p.block < W.heap.size := fun p hp => hW.lt p hp
  have hold : ∀ p ∈ before, (fun b => decide (b < W.heap.size)) p.block = true := fun p hp => by simpa using hlt p hp
  refine ⟨ds, gs, before, [], pa, pv, hW, hres _ _ _, hargs _ hold, hvars _ hold, World.keptBut_mono (fun p hp => ⟨hp, ?_⟩) (hb.frame (· ∈ before)), fun _ => ?_⟩
  · rw [hps, List.mem_append] at hp
    exact Or.inr hp
  · obtain ⟨_, _, _, _, _, hz, hn⟩ := hW
    refine ⟨hok, _, _, ([] ++ pa) ++ pv, ⟨[] ++ pa, pv, trodAll_append (hargs _ (fun _ _ => rfl)) (hres _ _ _), hvars _ (fun _ _ => rfl), rfl, ?_, ?_⟩, ?_⟩
    · intro b off hp
      have hin : MemPlace.cell b off ∈ before := by rw [hps]; simpa using hp
      rw [hb.frozen (hlt _ hin)]
      exact hz b off hin
    · intro ha
      have := hn ha
      rw [hps] at this
      simpa using this
    · intro p hp _
      rw [hps]
      simpa using hp
end
end Go.Proofs.YtfgeocpooimojaaDoor
namespace Go.Proofs.YtfgeocpooimojaaDoor
open Go Go.RowKit Go.ChangeShapes Go.WideShapes Go.ChangeAt Go.Deep Go.Joins

theorem i64_of_wf {x : Int} (h : (Lit.int .i64 x).wf = true) : I64 x := by
  simp [Lit.wf, IntKind.min, IntKind.max, IntKind.signed, IntKind.bits] at h
  exact ⟨by omega, by omega⟩
section
variable {H : Type} {enc : TypeId × Value → H} {W : World} {base : Nat} {spare : Nat → Bool} {held : Bool}
set_option maxRecDepth 100000 in
theorem open_wt {r : Reach} {b0 : Nat} {v : Value} {d : DataW H} {p : List MemPlace} (hv : Value.okWide Tryd.prog W r b0 23 v) (h : DataW.Trod enc Tryd.prog W base spare held 23 v d p) : ∃ a : Wt, v = a.val ∧ a.In := by
  obtain ⟨v0, v1, v2, v3, v4, y0, y1, y2, y3, y4, n, rfl, rfl, rfl, h0, h1, h2, h3, h4⟩ := open_agg5 Tryd.underlying23 (by kernel_rfl) (by kernel_rfl) hv h
  obtain ⟨a0, e0, _, w0⟩ := DataW.trod_int Tryd.underlying3 h0
  obtain ⟨a1, e1, _, w1⟩ := DataW.trod_int Tryd.underlying3 h1
  obtain ⟨a2, e2, _, w2⟩ := DataW.trod_int Tryd.underlying3 h2
  obtain ⟨a3, e3, _, w3⟩ := DataW.trod_int Tryd.underlying3 h3
  obtain ⟨a4, e4, _, w4⟩ := DataW.trod_int Tryd.underlying3 h4
  simp at e0 e1 e2 e3 e4
  subst e0 e1 e2 e3 e4
  exact ⟨⟨a0, a1, a2, a3, a4⟩, rfl, i64_of_wf w0, i64_of_wf w1, i64_of_wf w2, i64_of_wf w3, i64_of_wf w4⟩
theorem wtCells_split (l : List Wt) (j : Nat) (u : Value) (h : (wtCells l)[j]? = some u) : ∃ i r a, j = i * 5 + r ∧ l[i]? = some a ∧ a.cells[r]? = some u := by
  induction l generalizing j with
  | nil => simp [wtCells] at h
  | cons b l ih =>
    have e : wtCells (b :: l) = b.cells ++ wtCells l := rfl
    rw [e] at h
    by_cases hj : j < 5
    · rw [List.getElem?_append_left (by show _ < 5; exact hj)] at h
      exact ⟨0, j, b, by omega, rfl, h⟩
    · rw [List.getElem?_append_right (by show 5 ≤ _; omega)] at h
      obtain ⟨i, r, a, e1, e2, e3⟩ := ih _ h
      exact ⟨i + 1, r, a, by simp [Wt.cells] at e1; omega, by simpa using e2, e3⟩
set_option maxRecDepth 100000 in
theorem open_wts {fuel : Nat} {cs : List Value} {x : DataW H × List MemPlace} (h : DataW.trod enc Tryd.prog W base spare held fuel 24 cs = some x) :
    ∃ (A : Option Addr) (n c : Nat) (l : List Wt), cs = [.slice A n c] ∧ Reads W W.heap.size 5 A n (wtCells l) ∧ l.length = n ∧ (∀ a ∈ l, a.In) ∧ n ≤ maxLen := by
  rcases open_slice_fields Tryd.underlying24 Tryd.underlying23 (by kernel_rfl) (by kernel_rfl) h with ⟨rfl, _⟩ | ⟨ad, len, cap, m, D, Pl, rfl, _, hl, hm, hmm, _, hi⟩
  · exact ⟨none, 0, 0, [], rfl, Reads.none_, rfl, by simp, by unfold maxLen; omega⟩
  have hlm : len ≤ m := by rw [hmm]; split <;> omega
  have key : ∀ i, i < len → ∃ a : Wt, a.In ∧ ∀ r u, a.cells[r]? = some u → W.cell? (ad.add (i * 5 + r)) = some u := by
    intro i hil
    obtain ⟨ys, n, _, _, _, hf⟩ := hi i (by omega)
    obtain ⟨v0, y0, c0, _, t0⟩ := hf 0 _ rfl
    obtain ⟨v1, y1, c1, _, t1⟩ := hf 1 _ rfl
    obtain ⟨v2, y2, c2, _, t2⟩ := hf 2 _ rfl
    obtain ⟨v3, y3, c3, _, t3⟩ := hf 3 _ rfl
    obtain ⟨v4, y4, c4, _, t4⟩ := hf 4 _ rfl
    obtain ⟨a0, e0, _, w0⟩ := DataW.trod_int Tryd.underlying3 t0
    obtain ⟨a1, e1, _, w1⟩ := DataW.trod_int Tryd.underlying3 t1
    obtain ⟨a2, e2, _, w2⟩ := DataW.trod_int Tryd.underlying3 t2
    obtain ⟨a3, e3, _, w3⟩ := DataW.trod_int Tryd.underlying3 t3
    obtain ⟨a4, e4, _, w4⟩ := DataW.trod_int Tryd.underlying3 t4
    simp at e0 e1 e2 e3 e4
    subst e0 e1 e2 e3 e4
    refine ⟨⟨a0, a1, a2, a3, a4⟩, ⟨i64_of_wf w0, i64_of_wf w1, i64_of_wf w2, i64_of_wf w3, i64_of_wf w4⟩, fun r u hu => ?_⟩
    match r, hu with
    | 0, hu => simp [Wt.cells] at hu; subst hu; exact c0
    | 1, hu => simp [Wt.cells] at hu; subst hu; exact c1
    | 2, hu => simp [Wt.cells] at hu; subst hu; exact c2
    | 3, hu => simp [Wt.cells] at hu; subst hu; exact c3
    | 4, hu => simp [Wt.cells] at hu; subst hu; exact c4
    | r + 5, hu => simp [Wt.cells] at hu
  have build : ∀ k, k ≤ len → ∃ l : List Wt, l.length = k ∧ (∀ a ∈ l, a.In) ∧ ∀ i a, l[i]? = some a → ∀ r u, a.cells[r]? = some u → W.cell? (ad.add (i * 5 + r)) = some u := by
    intro k
    induction k with
    | zero => exact fun _ => ⟨[], rfl, by simp, by simp⟩
    | succ k ih =>
      intro hk
      obtain ⟨l, e, hin, hc⟩ := ih (by omega)
      obtain ⟨a, ha, hac⟩ := key k (by omega)
      refine ⟨l ++ [a], by simp [e], ?_, ?_⟩
      · intro b hb
        rw [List.mem_append] at hb
        rcases hb with hb | hb
        · exact hin b hb
        · simp at hb; subst hb; exact ha
      · intro i b hb
        by_cases hik : i < k
        · rw [List.getElem?_append_left (by omega)] at hb
          exact hc i b hb
        · rw [List.getElem?_append_right (by omega), e] at hb
          have : i = k := by
            rcases Nat.lt_or_ge k i with h | h
            · rw [List.getElem?_eq_none (by simp; omega)] at hb; cases hb
            · omega
          subst this
          simp at hb; subst hb; exact hac
  obtain ⟨l, e, hin, hc⟩ := build len (Nat.le_refl _)
  refine ⟨some ad, len, cap, l, rfl, ⟨?_, fun h0 => ⟨ad, rfl, ?_, ?_⟩⟩, e, hin, by omega⟩
  · clear hc hin
    rw [← e]
    clear e build key hi hlm hl
    induction l with
    | nil => rfl
    | cons a l ih => show (a.cells ++ wtCells l).length = _; rw [List.length_append, ih]; simp [Wt.cells]; omega
  · obtain ⟨a, _, hac⟩ := key 0 h0
    have := block_lt_of_cell (hac 0 _ rfl)
    simpa [block_of_add] using this
  · intro j u hu
    obtain ⟨i, r, a, rfl, h2, h3⟩ := wtCells_split l j u hu
    exact hc i a h2 r u h3
end
end Go.Proofs.YtfgeocpooimojaaDoor
namespace Go.Proofs.YtfgeocpooimojaaDoor
open Go Go.RowKit Go.ChangeShapes Go.WideShapes Go.ChangeAt Go.Deep Go.Joins

theorem Tryd.own : ownKnob Tryd.prog.godebug = none := by kernel_rfl
theorem Tryd.laidOut : laidOutB Tryd.prog = true := by kernel_rfl
theorem trodAll_stays {H : Type} {enc : TypeId × Value → H} {P : Program} {W W' : World} {sp' : Nat → Bool} (hl : laidOutB P = true) : ∀ {ts : List TypeId} {vs : List Value} {ds : List (DataW H)} {ps : List MemPlace},
    (ts.all fun t => P.readableRec t && decide (t < P.types.size)) = true → DataW.TrodAll enc P W 0 (fun _ => true) true ts vs ds ps → (∀ p ∈ ps, W.sameAt W' p) → (∀ p ∈ ps, sp' p.block = true) →
    DataW.TrodAll enc P W' 0 sp' true ts vs ds ps := by
  intro ts
  induction ts with
  | nil =>
    intro vs ds ps _ h _ _
    obtain ⟨rfl, rfl, rfl⟩ := trodAll_nil h
    exact trodAll_mk0
  | cons t ts ih =>
    intro vs ds ps hr h hs hp
    obtain ⟨v, vs', d, ds', p, q, rfl, rfl, rfl, hd, hrest⟩ := trodAll_cons h
    simp only [List.all_cons, Bool.and_eq_true, decide_eq_true_eq] at hr
    exact trodAll_cons_mk (WideElems.Trod_stays hl hr.1.1 hr.1.2 hd (fun x hx => hs x (by simp [hx])) (fun x hx => hp x (by simp [hx])))
      (ih hr.2 hrest (fun x hx => hs x (by simp [hx])) (fun x hx => hp x (by simp [hx])))
end Go.Proofs.YtfgeocpooimojaaDoor
