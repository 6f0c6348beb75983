/-
  WeightOrder returns true: the sum of weights does not depend on their order, and that of two weights is Add. Conditions: the list has been read as a slice of weights.
-/
import Derived.Test.YtfgeocpooimojaaDoorAwake
import Derived.Deep.RegionHeld3
namespace Go.Proofs.YtfgeocpooimojaaDoor
open Go Go.RowKit

theorem Tryd.infoWt : (Tryd.prog.info? 23).map (fun i => (i.zero, i.size, i.bytes)) = some (some (.agg (nums 0 0 0 0 0)), 5, 40) := by kernel_rfl
theorem sum_rev (l : List Int) : l.reverse.sum = l.sum := List.sum_reverse l
theorem sumWt_rev (l : List Wt) : sumWt l.reverse = sumWt l := by
  unfold sumWt
  simp only [List.map_reverse, sum_rev]
theorem sumVal_rev (l : List Wt) : sumVal l.reverse = sumVal l ∧ sumErr l.reverse = sumErr l := by
  unfold sumVal sumErr sumR sumX
  simp only [List.all_reverse, sumWt_rev]
  exact ⟨trivial, trivial⟩
theorem wtCells_append (l m : List Wt) : wtCells (l ++ m) = wtCells l ++ wtCells m := by simp [wtCells]
theorem wtCells_length (l : List Wt) : (wtCells l).length = l.length * 5 := by
  induction l with
  | nil => rfl
  | cons a l ih => show (a.cells ++ wtCells l).length = _; rw [List.length_append, ih]; simp [Wt.cells]; omega
theorem rev_take (l : List Wt) (n m : Nat) (a : Wt) (hl : l.length = n) (hm : m < n) (h : l[n - 1 - m]? = some a) : l.reverse.take (m + 1) = l.reverse.take m ++ [a] := by
  rw [List.take_add_one, List.getElem?_reverse (by omega), hl, h]; rfl
/-- A row of the call's own is a slice. -/
theorem own_form {w : World} {base n : Nat} {e : TypeId} {size : Nat} {v : Value} {xs : List Value} (h : w.ownsRow base e size v n xs) : ∃ A c, v = .slice A n c := by
  rcases h.2 with ⟨rfl, rfl⟩ | ⟨g, cap, cur, rfl, _⟩
  · exact ⟨none, 0, rfl⟩
  · exact ⟨_, _, rfl⟩
theorem blk_far5 {w : World} {g h : Nat} {t : TypeId} {cs : Array Value} (hb : Blk w g t cs) (hne : g ≠ h) (b0 b1 b2 b3 b4 : Value) :
    Blk (((((w.setCell ⟨h, 0, none⟩ b0).setCell ⟨h, 1, none⟩ b1).setCell ⟨h, 2, none⟩ b2).setCell ⟨h, 3, none⟩ b3).setCell ⟨h, 4, none⟩ b4) g t cs :=
  ((((hb.far (p := ⟨h, 0, none⟩) hne b0).far (p := ⟨h, 1, none⟩) hne b1).far (p := ⟨h, 2, none⟩) hne b2).far (p := ⟨h, 3, none⟩) hne b3).far (p := ⟨h, 4, none⟩) hne b4
theorem two_at {w : World} (ad : Addr) (a b : Wt) (c0 : w.cell? (ad.add (0 * 5)) = some (.int .i64 a.m)) (c1 : w.cell? ⟨(ad.add (0 * 5)).block, (ad.add (0 * 5)).off + 1, none⟩ = some (.int .i64 a.x)) (c2 : w.cell? ⟨(ad.add (0 * 5)).block, (ad.add (0 * 5)).off + 2, none⟩ = some (.int .i64 a.y)) (c3 : w.cell? ⟨(ad.add (0 * 5)).block, (ad.add (0 * 5)).off + 3, none⟩ = some (.int .i64 a.z)) (c4 : w.cell? ⟨(ad.add (0 * 5)).block, (ad.add (0 * 5)).off + 4, none⟩ = some (.int .i64 a.v))
    (d0 : w.cell? (ad.add (1 * 5)) = some (.int .i64 b.m)) (d1 : w.cell? ⟨(ad.add (1 * 5)).block, (ad.add (1 * 5)).off + 1, none⟩ = some (.int .i64 b.x)) (d2 : w.cell? ⟨(ad.add (1 * 5)).block, (ad.add (1 * 5)).off + 2, none⟩ = some (.int .i64 b.y)) (d3 : w.cell? ⟨(ad.add (1 * 5)).block, (ad.add (1 * 5)).off + 3, none⟩ = some (.int .i64 b.z)) (d4 : w.cell? ⟨(ad.add (1 * 5)).block, (ad.add (1 * 5)).off + 4, none⟩ = some (.int .i64 b.v)) (hlt : ad.block < w.heap.size) :
    (∀ w', Below w.heap.size w w' → w'.cell? ad = some (.int .i64 a.m)) ∧ (∀ w', Below w.heap.size w w' → w'.cell? ⟨ad.block, ad.off + 1, none⟩ = some (.int .i64 a.x)) ∧ (∀ w', Below w.heap.size w w' → w'.cell? ⟨ad.block, ad.off + 2, none⟩ = some (.int .i64 a.y)) ∧ (∀ w', Below w.heap.size w w' → w'.cell? ⟨ad.block, ad.off + 3, none⟩ = some (.int .i64 a.z)) ∧ (∀ w', Below w.heap.size w w' → w'.cell? ⟨ad.block, ad.off + 4, none⟩ = some (.int .i64 a.v)) ∧
    (∀ w', Below w.heap.size w w' → w'.cell? ⟨ad.block, ad.off + 5, none⟩ = some (.int .i64 b.m)) ∧ (∀ w', Below w.heap.size w w' → w'.cell? ⟨ad.block, ad.off + 5 + 1, none⟩ = some (.int .i64 b.x)) ∧ (∀ w', Below w.heap.size w w' → w'.cell? ⟨ad.block, ad.off + 5 + 2, none⟩ = some (.int .i64 b.y)) ∧ (∀ w', Below w.heap.size w w' → w'.cell? ⟨ad.block, ad.off + 5 + 3, none⟩ = some (.int .i64 b.z)) ∧ (∀ w', Below w.heap.size w w' → w'.cell? ⟨ad.block, ad.off + 5 + 4, none⟩ = some (.int .i64 b.v)) := by
  refine ⟨fun w' h => ?_, fun w' h => ?_, fun w' h => ?_, fun w' h => ?_, fun w' h => ?_, fun w' h => ?_, fun w' h => ?_, fun w' h => ?_, fun w' h => ?_, fun w' h => ?_⟩
  · exact (h.cell hlt).trans c0
  · exact (h.cell (p := ⟨ad.block, ad.off + 1, none⟩) hlt).trans c1
  · exact (h.cell (p := ⟨ad.block, ad.off + 2, none⟩) hlt).trans c2
  · exact (h.cell (p := ⟨ad.block, ad.off + 3, none⟩) hlt).trans c3
  · exact (h.cell (p := ⟨ad.block, ad.off + 4, none⟩) hlt).trans c4
  · exact (h.cell (p := ⟨ad.block, ad.off + 5, none⟩) hlt).trans d0
  · exact (h.cell (p := ⟨ad.block, ad.off + 5 + 1, none⟩) hlt).trans d1
  · exact (h.cell (p := ⟨ad.block, ad.off + 5 + 2, none⟩) hlt).trans d2
  · exact (h.cell (p := ⟨ad.block, ad.off + 5 + 3, none⟩) hlt).trans d3
  · exact (h.cell (p := ⟨ad.block, ad.off + 5 + 4, none⟩) hlt).trans d4
set_option maxHeartbeats 4000000 in
set_option maxRecDepth 100000 in
theorem weightOrder_true (A : Option Addr) (n c : Nat) (l : List Wt) (w : World) (hr : Reads w w.heap.size 5 A n (wtCells l)) (hln : l.length = n) (hI : ∀ a ∈ l, a.In) (hmax : n ≤ 9223372036854775807) :
    Calls Tryd.prog 6 #[.slice A n c] w fun e w' => e = .returned (.bool true) ∧ Below w.heap.size w w' := by
  have Hr := Lib.hid hr; clear hr
  have HI := Lib.hid hI; clear hI
  have Hln := Lib.hid hln; clear hln
  by_cases hn : 300 < n
  · go_enter Tryd.func6, Tryd.ntmps6
    go_wp2_with (go_at_call 8; refine (awake_true _).mono ?_; rintro e w1 ⟨rfl, hb⟩)
    go_ret
    exact ⟨rfl, hb⟩
  have hn0 : decide (300 < (n : Int)) = false := by simp; omega
  obtain ⟨i0, hi, hz0, hz1, hz2⟩ := info_parts Tryd.infoWt
  have Hi := Lib.hid hi; have Hz0 := Lib.hid hz0; have Hz1 := Lib.hid hz1; have Hz2 := Lib.hid hz2; clear hi hz0 hz1 hz2
  go_enter Tryd.func6, Tryd.ntmps6
  go_wp2_with fail
  go_loopw [3, 4] (fun v i wr => ∃ m : Nat, m ≤ n ∧ i = .int .i64 ((n : Int) - 1 - m) ∧ wr.ownsRow w.heap.size 23 5 v m (wtCells (l.reverse.take m)) ∧ Below w.heap.size w wr) (fun _ i _ => (intOf i + 1).toNat)
  case atStart => exact ⟨0, Nat.zero_le _, by go_num, World.ownsRow_nil _ _ _ _, Below.refl _ _⟩
  case round =>
    obtain ⟨m, hm, rfl, hown, hb⟩ := hrel
    have Hown := Lib.hid hown; have Hb := Lib.hid hb
    have hsz := hb.size
    clear hown hb
    by_cases hlt : m < n
    · obtain ⟨ad, a, rfl, _, ha, c0, c1, c2, c3, c4⟩ := wtReads_at (k := n - 1 - m) (Hr.out.below Hb.out) (by omega)
      have HT : Hid (wtCells (l.reverse.take (m + 1)) = wtCells (l.reverse.take m) ++ a.cells) := by unfold Hid; rw [rev_take l n m a Hln.out hlt ha, wtCells_append]; simp [wtCells]
      have hix : ((n : Int) - 1 - m).toNat = n - 1 - m := by omega
      clear ha
      have h1 : ∀ u ∈ a.cells, u.oneCell' = true := by intro u hu; simp [Wt.cells] at hu; rcases hu with rfl | rfl | rfl | rfl | rfl <;> rfl
      have H1 := Lib.hid h1; clear h1
      have HN : Hid (∀ j u, a.cells[j]? = some u → (wr.alloc (.cells #[.int .i64 a.m, .int .i64 a.x, .int .i64 a.y, .int .i64 a.z, .int .i64 a.v] 23)).cell? ((⟨wr.heap.size, 0, none⟩ : Addr).add j) = some u) := World.news_of_block (cs := a.cells.toArray) (heap_alloc_new wr _)
      go_wp2_with (at_builtin; refine wpList_append_lies _ rfl (.tmp 22) (.tmp 27) 24 rfl w.heap.size 23 i0 _ 5 40 Tryd.underlying24 Hi.out Hz0.out Hz1.out Hz2.out rfl (by omega) _ m _ rfl (Hown.out.alloc _) ⟨wr.heap.size, 0, none⟩ 1 1 a.cells rfl rfl HN.out H1.out (by omega) (by unfold maxLen; omega) (by omega) (by simp; omega) (wr.heap.size + 1) (by simp) ?_; intro g cap w1 hown1 hgrow hat hlt1)
      have Hown1 := Lib.hid hown1; have Hg := Lib.hid hgrow; clear hown1 hgrow hat
      go_wp2_with fail
      go_roundw
      case rel => exact ⟨m + 1, by omega, by go_num, by rw [HT.out]; exact Hown1.out, (Hb.out.alloc hsz _).grown Hg.out (by simp; omega) (fun k hk => (Hown.out.lt k hk).1)⟩
      case measure => simp [intOf]; omega
    · obtain rfl : m = n := by omega
      have htk : l.reverse.take m = l.reverse := List.take_of_length_le (by rw [List.length_reverse, Hln.out]; omega)
      rw [htk] at Hown
      clear htk
      obtain ⟨A2, c2, rfl⟩ := own_form Hown.out
      have Hr2 := Lib.hid (Reads.of_own Hown.out)
      have HC1 : Hid (Calls Tryd.prog 11 #[.slice A m c] wr fun e w' => e = .returned (.tuple #[.agg #[.int .i64 (sumVal l).m, .int .i64 (sumVal l).x, .int .i64 (sumVal l).y, .int .i64 (sumVal l).z, .int .i64 (sumVal l).v], .int .i64 (sumErr l)]) ∧ Below wr.heap.size wr w') :=
        weightSum_any A m c l wr ((Hr.out.below Hb.out).more hsz) Hln.out (by omega) HI.out
      have HC2 : Hid (∀ W, Reads W W.heap.size 5 A2 m (wtCells l.reverse) → Calls Tryd.prog 11 #[.slice A2 m c2] W fun e w' => e = .returned (.tuple #[.agg #[.int .i64 (sumVal l).m, .int .i64 (sumVal l).x, .int .i64 (sumVal l).y, .int .i64 (sumVal l).z, .int .i64 (sumVal l).v], .int .i64 (sumErr l)]) ∧ Below W.heap.size W w') := by
        intro W hW
        have := weightSum_any A2 m c2 l.reverse W hW (by rw [List.length_reverse, Hln.out]) (by omega) (fun a ha => HI.out a (List.mem_reverse.1 ha))
        rw [(sumVal_rev l).1, (sumVal_rev l).2] at this
        exact this
      have HL2 : Hid (∀ a b, l = [a, b] → ∀ W, Calls Tryd.prog 9 #[a.val, b.val] W fun e w' => e = .returned (.tuple #[.agg #[.int .i64 (sumVal l).m, .int .i64 (sumVal l).x, .int .i64 (sumVal l).y, .int .i64 (sumVal l).z, .int .i64 (sumVal l).v], .int .i64 (sumErr l)]) ∧ Below W.heap.size W w') := by
        rintro a b rfl W
        exact weightAdd_any a b (HI.out a (by simp)) (HI.out b (by simp)) W
      clear Hown
      generalize (sumVal l).m = V0 at *
      generalize (sumVal l).x = V1 at *
      generalize (sumVal l).y = V2 at *
      generalize (sumVal l).z = V3 at *
      generalize (sumVal l).v = V4 at *
      generalize sumErr l = V5 at *
      go_wp2_with fail
      refine HC1.out.mono ?_
      rintro e w1 ⟨rfl, hb1⟩
      have Hb1 := Lib.hid hb1
      have hs1 := hb1.size
      clear hb1 HC1
      go_wp2_with fail
      refine (HC2.out _ (((Hr2.out.below Hb1.out).alloc hs1 _).more (by simp; omega))).mono ?_
      rintro e w2 ⟨rfl, hb2⟩
      have T5 : Hid (Blk w2 w1.heap.size 23 (nums V0 V1 V2 V3 V4)) := Lib.hid ((Blk.new w1 _ _).below hb2 (by simp))
      have Hb2 : Hid (Below w.heap.size w w2) := Lib.hid ((Hb.out.trans (Hb1.out.mono hsz)).trans (Below.trans (by go_grown) (hb2.mono (by simp; omega))))
      clear hb2 HC2 Hr2
      have l5 := T5.out.lt
      have a0 := T5.out.cell 0; have a1 := T5.out.cell 1; have a2 := T5.out.cell 2; have a3 := T5.out.cell 3; have a4 := T5.out.cell 4
      simp at a0 a1 a2 a3 a4
      by_cases h2 : m = 2
      · obtain rfl : m = 2 := h2
        obtain ⟨a, b, rfl⟩ : ∃ a b, l = [a, b] := by
          have := Hln.out
          match l, this with
          | [a, b], _ => exact ⟨a, b, rfl⟩
        have hbW : Below w.heap.size w (w2.alloc (.cells (nums V0 V1 V2 V3 V4) 23)) := Hb2.out.alloc Hb2.out.size _
        obtain ⟨ad, a', rfl, hadb, ha', c0, c1, c2', c3, c4⟩ := wtReads_at (k := 0) (Hr.out.below hbW) (by omega)
        obtain ⟨ad', b', had', _, hb', d0, d1, d2, d3, d4⟩ := wtReads_at (k := 1) (Hr.out.below hbW) (by omega)
        obtain rfl : ad = ad' := by injection had'
        simp at ha' hb'
        obtain rfl := ha'
        obtain rfl := hb'
        have HA := Lib.hid (HL2.out a b rfl)
        have HbW := Lib.hid hbW
        have hadW : ad.block < (w2.alloc (.cells (nums V0 V1 V2 V3 V4) 23)).heap.size := by have := hbW.size; omega
        have htw : Hid (Blk (w2.alloc (.cells (nums V0 V1 V2 V3 V4) 23)) w1.heap.size 23 (nums V0 V1 V2 V3 V4)) := T5.out.alloc _
        clear hbW had' HL2
        rw [a.val_eq, b.val_eq] at HA
        go_wp2_with fail
        clear a0 a1 a2 a3 a4 hs1 hsz hmax hn T5 l5
        obtain ⟨W0, hW0⟩ : ∃ W0, W0 = (w2.alloc (.cells (nums V0 V1 V2 V3 V4) 23)) := ⟨_, rfl⟩
        rw [← hW0] at c0 c1 c2' c3 c4 d0 d1 d2 d3 d4 HbW hadW htw
        have E := two_at ad a b c0 c1 c2' c3 c4 d0 d1 d2 d3 d4 hadW
        clear c0 c1 c2' c3 c4 d0 d1 d2 d3 d4
        obtain ⟨c0, c1, c2', c3, c4, d0, d1, d2, d3, d4⟩ := E
        have hgo : w2.alloc (.cells #[.int .i64 V0, .int .i64 V1, .int .i64 V2, .int .i64 V3, .int .i64 V4] 23) = W0 := hW0.symm
        rw [hgo]
        clear hgo hW0
        go_region_held3 (fun w' => Below W0.heap.size W0 w') (first | exact Below.drew (Below.refl _ _) | exact Below.trans (by assumption) (hb3.mono (Below.size (B := W0.heap.size) (w := W0) (by assumption))) | exact Below.alloc (by assumption) (Below.size (B := W0.heap.size) (w := W0) (by assumption)) _ | exact Hk3.out.alloc Hk3.out.size _ | go_grown) ((go_at_call 9; refine (HA.out _).mono ?_; rintro e w3 ⟨rfl, hb3⟩; obtain ⟨hc3, hf3⟩ := bcell hb3; have hz3 := hb3.size; simp at hz3; have Hk3 := Lib.hid (Below.trans (a := W0) (B := W0.heap.size) (by assumption) (hb3.mono (Below.size (B := W0.heap.size) (w := W0) (by assumption))))))
        · have B9 : Hid (Blk (w3.alloc (.cells #[.int .i64 V0, .int .i64 V1, .int .i64 V2, .int .i64 V3, .int .i64 V4] 23)) w3.heap.size 23 #[.int .i64 V0, .int .i64 V1, .int .i64 V2, .int .i64 V3, .int .i64 V4]) := Lib.hid (Blk.new w3 _ _)
          have B5 : Hid (Blk (w3.alloc (.cells #[.int .i64 V0, .int .i64 V1, .int .i64 V2, .int .i64 V3, .int .i64 V4] 23)) w1.heap.size 23 #[.int .i64 V0, .int .i64 V1, .int .i64 V2, .int .i64 V3, .int .i64 V4]) := Lib.hid ((htw.out.below Hk3.out htw.out.lt).alloc _)
          have HW : Hid (Below w.heap.size w (w3.alloc (.cells #[.int .i64 V0, .int .i64 V1, .int .i64 V2, .int .i64 V3, .int .i64 V4] 23))) := Lib.hid ((HbW.out.trans (Hk3.out.mono HbW.out.size)).trans (by have h1 := HbW.out.size; have h2 := Hk3.out.size; go_grown))
          clear hc3 hf3 hz3 Hk3 c0 c1 c2' c3 c4 d0 d1 d2 d3 d4 HA
          generalize (w3.alloc (.cells #[.int .i64 V0, .int .i64 V1, .int .i64 V2, .int .i64 V3, .int .i64 V4] 23)) = W4 at *
          have a0 := B5.out.cell 0; have a1 := B5.out.cell 1; have a2 := B5.out.cell 2; have a3 := B5.out.cell 3; have a4 := B5.out.cell 4
          have e0 := B9.out.cell 0; have e1 := B9.out.cell 1; have e2 := B9.out.cell 2; have e3 := B9.out.cell 3; have e4 := B9.out.cell 4
          simp at a0 a1 a2 a3 a4 e0 e1 e2 e3 e4
          go_wp2_with (go_at_call 8; refine (awake_true _).mono ?_; rintro e w1 ⟨rfl, hb⟩)
          go_ret
          exact ⟨rfl, HW.out.trans (hb.mono HW.out.size)⟩
        · have B9 : Hid (Blk (((((w3.setCell ⟨W0.heap.size, 0, none⟩ (.int .i64 V0)).setCell ⟨W0.heap.size, 1, none⟩ (.int .i64 V1)).setCell ⟨W0.heap.size, 2, none⟩ (.int .i64 V2)).setCell ⟨W0.heap.size, 3, none⟩ (.int .i64 V3)).setCell ⟨W0.heap.size, 4, none⟩ (.int .i64 V4)) W0.heap.size 23 #[.int .i64 V0, .int .i64 V1, .int .i64 V2, .int .i64 V3, .int .i64 V4]) := Lib.hid (blk_set5 (a0 := .int .i64 0) (a1 := .int .i64 0) (a2 := .int .i64 0) (a3 := .int .i64 0) (a4 := .int .i64 0) ((Blk.new W0.drew 23 (nums 0 0 0 0 0)).below hb3 (by simp)) _ _ _ _ _)
          have B5 : Hid (Blk (((((w3.setCell ⟨W0.heap.size, 0, none⟩ (.int .i64 V0)).setCell ⟨W0.heap.size, 1, none⟩ (.int .i64 V1)).setCell ⟨W0.heap.size, 2, none⟩ (.int .i64 V2)).setCell ⟨W0.heap.size, 3, none⟩ (.int .i64 V3)).setCell ⟨W0.heap.size, 4, none⟩ (.int .i64 V4)) w1.heap.size 23 #[.int .i64 V0, .int .i64 V1, .int .i64 V2, .int .i64 V3, .int .i64 V4]) := Lib.hid (blk_far5 (htw.out.below Hk3.out htw.out.lt) (by have := htw.out.lt; omega) _ _ _ _ _)
          have HW : Hid (Below w.heap.size w (((((w3.setCell ⟨W0.heap.size, 0, none⟩ (.int .i64 V0)).setCell ⟨W0.heap.size, 1, none⟩ (.int .i64 V1)).setCell ⟨W0.heap.size, 2, none⟩ (.int .i64 V2)).setCell ⟨W0.heap.size, 3, none⟩ (.int .i64 V3)).setCell ⟨W0.heap.size, 4, none⟩ (.int .i64 V4))) := Lib.hid ((HbW.out.trans (Hk3.out.mono HbW.out.size)).trans (by have h1 := HbW.out.size; have h2 := Hk3.out.size; go_grown))
          clear hc3 hf3 hz3 Hk3 c0 c1 c2' c3 c4 d0 d1 d2 d3 d4 HA
          generalize (((((w3.setCell ⟨W0.heap.size, 0, none⟩ (.int .i64 V0)).setCell ⟨W0.heap.size, 1, none⟩ (.int .i64 V1)).setCell ⟨W0.heap.size, 2, none⟩ (.int .i64 V2)).setCell ⟨W0.heap.size, 3, none⟩ (.int .i64 V3)).setCell ⟨W0.heap.size, 4, none⟩ (.int .i64 V4)) = W4 at *
          have a0 := B5.out.cell 0; have a1 := B5.out.cell 1; have a2 := B5.out.cell 2; have a3 := B5.out.cell 3; have a4 := B5.out.cell 4
          have e0 := B9.out.cell 0; have e1 := B9.out.cell 1; have e2 := B9.out.cell 2; have e3 := B9.out.cell 3; have e4 := B9.out.cell 4
          simp at a0 a1 a2 a3 a4 e0 e1 e2 e3 e4
          go_wp2_with (go_at_call 8; refine (awake_true _).mono ?_; rintro e w1 ⟨rfl, hb⟩)
          go_ret
          exact ⟨rfl, HW.out.trans (hb.mono HW.out.size)⟩
      · have g2 : ((m : Int) == 2) = false := by rw [beq_eq_false_iff_ne]; omega
        go_wp2_with (go_at_call 8; refine (awake_true _).mono ?_; rintro e w1 ⟨rfl, hb⟩)
        go_ret
        exact ⟨rfl, Below.trans (Hb2.out.alloc Hb2.out.size _) (hb.mono (by have := Hb2.out.size; simp; omega))⟩
end Go.Proofs.YtfgeocpooimojaaDoor
