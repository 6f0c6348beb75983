/-
  What Sum of the reference of weights returns. Conditions: as each theorem states them.
-/
import Derived.Test.YtfgeocpooimojaaDoorWadc
import Derived.Test.YtfgeocpooimojaaDoorFiveb
import Derived.Deep.RegionHeld3
namespace Go.Proofs.YtfgeocpooimojaaDoor
open Go Go.RowKit

def fld (c : Nat) (a : Wt) : Int := match c with | 0 => a.m | 1 => a.x | 2 => a.y | 3 => a.z | _ => a.v
def colTo (l : List Wt) (k c : Nat) : List Value := ((l.map (fld c)).take k).map (Value.int .i64)
theorem colTo_next (l : List Wt) (k c : Nat) (a : Wt) (h : l[k]? = some a) : colTo l (k + 1) c = colTo l k c ++ [.int .i64 (fld c a)] := by
  unfold colTo
  rw [List.take_add_one, List.getElem?_map, h]; simp
theorem fld_In (c : Nat) (a : Wt) (h : a.In) : I64 (fld c a) := by
  obtain ⟨h0, h1, h2, h3, h4⟩ := h
  unfold fld
  split <;> assumption
theorem own_slice {w : World} {base n : Nat} {e : TypeId} {size : Nat} {v : Value} {xs : List Value} (h : w.ownsRow base e size v n xs) : ∃ A c, v = .slice A n c := by
  rcases h.2 with ⟨rfl, rfl⟩ | ⟨g, cap, cur, rfl, _⟩
  · exact ⟨none, 0, rfl⟩
  · exact ⟨_, _, rfl⟩
def Apart (v : Nat → Value) : Prop := ∀ c, c < 5 → ∀ d, d < 5 → c ≠ d → ∀ g, (v c).ownBlock = some g → (v d).ownBlock ≠ some g
theorem five_cells {w : World} {B : Nat} (ad : Addr) (k : Nat) (a : Wt) (c0 : w.cell? (ad.add (k * 5)) = some (.int .i64 a.m)) (c1 : w.cell? ⟨(ad.add (k * 5)).block, (ad.add (k * 5)).off + 1, none⟩ = some (.int .i64 a.x)) (c2 : w.cell? ⟨(ad.add (k * 5)).block, (ad.add (k * 5)).off + 2, none⟩ = some (.int .i64 a.y)) (c3 : w.cell? ⟨(ad.add (k * 5)).block, (ad.add (k * 5)).off + 3, none⟩ = some (.int .i64 a.z)) (c4 : w.cell? ⟨(ad.add (k * 5)).block, (ad.add (k * 5)).off + 4, none⟩ = some (.int .i64 a.v)) (hlt : ad.block < B) :
    (∀ w', Below B w w' → w'.cell? (ad.add (k * 5)) = some (.int .i64 a.m)) ∧ (∀ w', Below B w w' → w'.cell? ⟨(ad.add (k * 5)).block, (ad.add (k * 5)).off + 1, none⟩ = some (.int .i64 a.x)) ∧ (∀ w', Below B w w' → w'.cell? ⟨(ad.add (k * 5)).block, (ad.add (k * 5)).off + 2, none⟩ = some (.int .i64 a.y)) ∧ (∀ w', Below B w w' → w'.cell? ⟨(ad.add (k * 5)).block, (ad.add (k * 5)).off + 3, none⟩ = some (.int .i64 a.z)) ∧ (∀ w', Below B w w' → w'.cell? ⟨(ad.add (k * 5)).block, (ad.add (k * 5)).off + 4, none⟩ = some (.int .i64 a.v)) := by
  have hb : (ad.add (k * 5)).block < B := by rw [block_of_add]; exact hlt
  exact ⟨fun w' h => (h.cell hb).trans c0, fun w' h => (h.cell (p := ⟨(ad.add (k * 5)).block, (ad.add (k * 5)).off + 1, none⟩) hb).trans c1, fun w' h => (h.cell (p := ⟨(ad.add (k * 5)).block, (ad.add (k * 5)).off + 2, none⟩) hb).trans c2, fun w' h => (h.cell (p := ⟨(ad.add (k * 5)).block, (ad.add (k * 5)).off + 3, none⟩) hb).trans c3, fun w' h => (h.cell (p := ⟨(ad.add (k * 5)).block, (ad.add (k * 5)).off + 4, none⟩) hb).trans c4⟩
set_option maxHeartbeats 20000000 in
set_option maxRecDepth 100000 in
theorem refSum_any (A : Option Addr) (n c : Nat) (l : List Wt) (w : World) (hr : Reads w w.heap.size 5 A n (wtCells l)) (hln : l.length = n) (hn : n ≤ 300) (hI : ∀ a ∈ l, a.In) :
    Calls Tryd.prog 12 #[.slice A n c] w fun e w' => e = .returned (.tuple #[(sumVal l).val, .int .i64 (sumErr l)]) ∧ Below w.heap.size w w' := by
  have Hr := Lib.hid hr; clear hr
  have HI := Lib.hid hI; clear hI
  have Hln := Lib.hid hln; clear hln
  have HB := Lib.hid (Blk.new w 23 #[.int .i64 0, .int .i64 0, .int .i64 0, .int .i64 0, .int .i64 0])
  go_enter Tryd.func12, Tryd.ntmps12
  go_wp2_with fail
  go_loopw [4, 5, 6, 7, 8, 9] (fun v4 v5 v6 v7 v8 i wr => ∃ (k : Nat) (v : Nat → Value), k ≤ n ∧ i = .int .i64 k ∧ v4 = v 0 ∧ v5 = v 1 ∧ v6 = v 2 ∧ v7 = v 3 ∧ v8 = v 4 ∧ Hid (∀ c, c < 5 → wr.ownsRow (w.heap.size + 1) 3 1 (v c) k (colTo l k c)) ∧ Hid (Apart v) ∧ Hid ((l.take k).all Wt.okB = true) ∧ Hid (Blk wr w.heap.size 23 #[.int .i64 0, .int .i64 0, .int .i64 0, .int .i64 0, .int .i64 0]) ∧ Hid (Below w.heap.size w wr)) (fun _ _ _ _ _ i _ => n - (intOf i).toNat)
  case atStart => exact ⟨0, fun _ => .slice none 0 0, Nat.zero_le _, rfl, rfl, rfl, rfl, rfl, rfl, fun c _ => World.ownsRow_nil _ _ _ _, (fun c _ d _ _ g hg => by simp [Value.ownBlock] at hg), by simp [Hid], HB.out, by unfold Hid; go_grown⟩
  case round =>
    obtain ⟨k, v, hk, rfl, rfl, rfl, rfl, rfl, rfl, HO, HAp, HA, Hblk, Hb⟩ := hrel
    clear HB
    have hlt : w.heap.size < wr.heap.size := Hblk.out.lt
    by_cases hkn : k < n
    · obtain ⟨ad, a, rfl, hadb, ha, c0, c1, c2, c3, c4⟩ := wtReads_at (Hr.out.below Hb.out) hkn
      have hab : ad.block < wr.heap.size := by omega
      cases hok : a.okB
      · have HR : Hid ((sumVal l).val = zeroW.val ∧ sumErr l = 9) := by unfold Hid sumVal sumErr; rw [allOk_not l k a ha hok]; exact ⟨rfl, rfl⟩
        have he : chkE a.m a.x a.y a.z a.v = 9 := by unfold chkE; exact if_neg (by rw [show okW a.m a.x a.y a.z a.v = false from hok]; simp)
        clear ha hok
        have z0 := Hblk.out.cell 0; have z1 := Hblk.out.cell 1; have z2 := Hblk.out.cell 2; have z3 := Hblk.out.cell 3; have z4 := Hblk.out.cell 4
        simp at z0 z1 z2 z3 z4
        have f0 := Hblk.out.frozen 0; have f1 := Hblk.out.frozen 1; have f2 := Hblk.out.frozen 2; have f3 := Hblk.out.frozen 3; have f4 := Hblk.out.frozen 4
        go_wp2_with (go_at_call 14; refine (refCheck_at _ _ _ _ _ _).mono ?_; rintro e w' ⟨rfl, rfl⟩)
        refine bodyPost_ret (results_cell_tmp rfl _ _ w.heap.size 23 #[.int .i64 0, .int .i64 0, .int .i64 0, .int .i64 0, .int .i64 0] _ rfl (by with_reducible exact (blk_set5 Hblk.out _ _ _ _ _).alloc _) Tryd.underlying23 rfl (by kernel_rfl)) rfl ⟨by rw [HR.out.1, HR.out.2]; rfl, ?_⟩
        have Hb' := Hb.out
        have Hz := Hb'.size
        go_grown
      · have he : chkE a.m a.x a.y a.z a.v = 0 := by unfold chkE; exact if_pos hok
        have HA' : Hid ((l.take (k + 1)).all Wt.okB = true) := allOk_take l k a ha HA.out hok
        have HC : Hid (∀ c, colTo l (k + 1) c = colTo l k c ++ [.int .i64 (fld c a)]) := fun c => colTo_next l k c a ha
        clear ha hok
        go_wp2_with (go_at_call 14; refine (refCheck_at _ _ _ _ _ _).mono ?_; rintro e w' ⟨rfl, rfl⟩)
        have E := five_cells (w := wr.alloc (.cells #[.int .i64 a.m, .int .i64 a.x, .int .i64 a.y, .int .i64 a.z, .int .i64 a.v] 23)) (B := w.heap.size + 1) ad k a ((World.cell?_alloc_lt wr _ _ (by show (ad.add (k * 5)).block < _; rw [block_of_add]; exact hab)).trans c0) ((World.cell?_alloc_lt wr _ _ (by show (ad.add (k * 5)).block < _; rw [block_of_add]; exact hab)).trans c1) ((World.cell?_alloc_lt wr _ _ (by show (ad.add (k * 5)).block < _; rw [block_of_add]; exact hab)).trans c2) ((World.cell?_alloc_lt wr _ _ (by show (ad.add (k * 5)).block < _; rw [block_of_add]; exact hab)).trans c3) ((World.cell?_alloc_lt wr _ _ (by show (ad.add (k * 5)).block < _; rw [block_of_add]; exact hab)).trans c4) (by omega)
        have HO2 : Hid (∀ c, c < 5 → (wr.alloc (.cells #[.int .i64 a.m, .int .i64 a.x, .int .i64 a.y, .int .i64 a.z, .int .i64 a.v] 23)).ownsRow (w.heap.size + 1) 3 1 (v c) k (colTo l k c)) := fun c hc => (HO.out c hc).alloc _
        have Hblk2 : Hid (Blk (wr.alloc (.cells #[.int .i64 a.m, .int .i64 a.x, .int .i64 a.y, .int .i64 a.z, .int .i64 a.v] 23)) w.heap.size 23 #[.int .i64 0, .int .i64 0, .int .i64 0, .int .i64 0, .int .i64 0]) := Hblk.out.alloc _
        have Hb2 : Hid (Below w.heap.size w (wr.alloc (.cells #[.int .i64 a.m, .int .i64 a.x, .int .i64 a.y, .int .i64 a.z, .int .i64 a.v] 23))) := Hb.out.alloc (by omega) _
        have hlt2 : w.heap.size + 1 ≤ (wr.alloc (.cells #[.int .i64 a.m, .int .i64 a.x, .int .i64 a.y, .int .i64 a.z, .int .i64 a.v] 23)).heap.size := by simp; omega
        clear c0 c1 c2 c3 c4 HO Hblk Hb hlt hab he
        generalize wr.alloc (.cells #[.int .i64 a.m, .int .i64 a.x, .int .i64 a.y, .int .i64 a.z, .int .i64 a.v] 23) = W0 at *
        obtain ⟨c0, c1, c2, c3, c4⟩ := E
        refine held45 (S := fun w' => Below (w.heap.size + 1) W0 w') rfl (by kernel_rfl) ?_
        have hS0 : Below (w.heap.size + 1) W0 { W0 with drawn := W0.drawn + 1 } := (Below.refl _ _).drew
        refine wpAnyH_take (i := 0) (oi := _) (v := ?_) rfl (by kernel_rfl) (by kernel_rfl) (by kernel_rfl) (fun _ _ _ h => h) (Or.inl ⟨by rfl, ?hy0⟩) (by assumption) ?_
        rotate_left
        case hy0 =>
          intro w' hSw
          go_simp
          try with_reducible rfl
        simp only [Act.put]
        refine wpAnyH_take (i := 1) (oi := _) (v := ?_) rfl (by kernel_rfl) (by kernel_rfl) (by kernel_rfl) (fun _ _ _ h => h) (Or.inl ⟨by rfl, ?hy1⟩) (by assumption) ?_
        rotate_left
        case hy1 =>
          intro w' hSw
          go_simp
          try with_reducible rfl
        simp only [Act.put]
        refine wpAnyH_take (i := 2) (oi := _) (v := ?_) rfl (by kernel_rfl) (by kernel_rfl) (by kernel_rfl) (fun _ _ _ h => h) (Or.inl ⟨by rfl, ?hy2⟩) (by assumption) ?_
        rotate_left
        case hy2 =>
          intro w' hSw
          go_simp
          try with_reducible rfl
        simp only [Act.put]
        refine wpAnyH_take (i := 3) (oi := _) (v := ?_) rfl (by kernel_rfl) (by kernel_rfl) (by kernel_rfl) (fun _ _ _ h => h) (Or.inl ⟨by rfl, ?hy3⟩) (by assumption) ?_
        rotate_left
        case hy3 =>
          intro w' hSw
          go_simp
          try with_reducible rfl
        simp only [Act.put]
        refine wpAnyH_take (i := 4) (oi := _) (v := ?_) rfl (by kernel_rfl) (by kernel_rfl) (by kernel_rfl) (fun _ _ _ h => h) (Or.inl ⟨by rfl, ?hy4⟩) (by assumption) ?_
        rotate_left
        case hy4 =>
          intro w' hSw
          go_simp
          try with_reducible rfl
        simp only [Act.put]
        refine wpAnyH_take (i := 5) (oi := _) (v := ?_) rfl (by kernel_rfl) (by kernel_rfl) (by kernel_rfl) (fun _ _ _ h => h) (Or.inl ⟨by rfl, ?hy5⟩) (by assumption) ?_
        rotate_left
        case hy5 =>
          intro w' hSw
          go_simp
          try with_reducible rfl
        simp only [Act.put]
        refine wpAnyH_take (i := 8) (oi := _) (v := ?_) rfl (by kernel_rfl) (by kernel_rfl) (by kernel_rfl) (fun _ _ _ h => h) (Or.inl ⟨by rfl, ?hy8⟩) (by assumption) ?_
        rotate_left
        case hy8 =>
          intro w' hSw
          go_simp
          try with_reducible rfl
        simp only [Act.put]
        refine wpAnyH_take (i := 9) (oi := _) (v := ?_) rfl (by kernel_rfl) (by kernel_rfl) (by kernel_rfl) (fun _ _ _ h => h) (Or.inl ⟨by rfl, ?hy9⟩) (by assumption) ?_
        rotate_left
        case hy9 =>
          intro w' hSw
          go_simp
          try with_reducible rfl
        simp only [Act.put]
        refine wpAnyH_take (i := 10) (oi := _) (v := ?_) rfl (by kernel_rfl) (by kernel_rfl) (by kernel_rfl) (fun _ _ _ h => h) (Or.inl ⟨by rfl, ?hy10⟩) (by assumption) ?_
        rotate_left
        case hy10 =>
          intro w' hSw
          go_simp
          try with_reducible rfl
        simp only [Act.put]
        refine wpAnyH_take (i := 11) (oi := _) (v := ?_) rfl (by kernel_rfl) (by kernel_rfl) (by kernel_rfl) (fun _ _ _ h => h) (Or.inl ⟨by rfl, ?hy11⟩) (by assumption) ?_
        rotate_left
        case hy11 =>
          intro w' hSw
          go_simp
          try with_reducible rfl
        simp only [Act.put]
        refine wpAnyH_take (i := 12) (oi := _) (v := ?_) rfl (by kernel_rfl) (by kernel_rfl) (by kernel_rfl) (fun _ _ _ h => h) (Or.inl ⟨by rfl, ?hy12⟩) (by assumption) ?_
        rotate_left
        case hy12 =>
          intro w' hSw
          go_simp
          try with_reducible rfl
        simp only [Act.put]
        refine wpAnyH_take (i := 13) (oi := _) (v := ?_) rfl (by kernel_rfl) (by kernel_rfl) (by kernel_rfl) (fun _ _ _ h => h) (Or.inl ⟨by rfl, ?hy13⟩) (by assumption) ?_
        rotate_left
        case hy13 =>
          intro w' hSw
          go_simp
          try with_reducible rfl
        simp only [Act.put]
        refine wpAnyH_take (i := 16) (oi := _) (v := ?_) rfl (by kernel_rfl) (by kernel_rfl) (by kernel_rfl) (fun _ _ _ h => h) (Or.inl ⟨by rfl, ?hy16⟩) (by assumption) ?_
        rotate_left
        case hy16 =>
          intro w' hSw
          go_simp
          try with_reducible rfl
        simp only [Act.put]
        refine wpAnyH_take (i := 17) (oi := _) (v := ?_) rfl (by kernel_rfl) (by kernel_rfl) (by kernel_rfl) (fun _ _ _ h => h) (Or.inl ⟨by rfl, ?hy17⟩) (by assumption) ?_
        rotate_left
        case hy17 =>
          intro w' hSw
          go_simp
          try with_reducible rfl
        simp only [Act.put]
        refine wpAnyH_take (i := 18) (oi := _) (v := ?_) rfl (by kernel_rfl) (by kernel_rfl) (by kernel_rfl) (fun _ _ _ h => h) (Or.inl ⟨by rfl, ?hy18⟩) (by assumption) ?_
        rotate_left
        case hy18 =>
          intro w' hSw
          go_simp
          try with_reducible rfl
        simp only [Act.put]
        refine wpAnyH_take (i := 19) (oi := _) (v := ?_) rfl (by kernel_rfl) (by kernel_rfl) (by kernel_rfl) (fun _ _ _ h => h) (Or.inl ⟨by rfl, ?hy19⟩) (by assumption) ?_
        rotate_left
        case hy19 =>
          intro w' hSw
          go_simp
          try with_reducible rfl
        simp only [Act.put]
        refine wpAnyH_take (i := 20) (oi := _) (v := ?_) rfl (by kernel_rfl) (by kernel_rfl) (by kernel_rfl) (fun _ _ _ h => h) (Or.inl ⟨by rfl, ?hy20⟩) (by assumption) ?_
        rotate_left
        case hy20 =>
          intro w' hSw
          go_simp
          try with_reducible rfl
        simp only [Act.put]
        refine wpAnyH_take (i := 21) (oi := _) (v := ?_) rfl (by kernel_rfl) (by kernel_rfl) (by kernel_rfl) (fun _ _ _ h => h) (Or.inl ⟨by rfl, ?hy21⟩) (by assumption) ?_
        rotate_left
        case hy21 =>
          intro w' hSw
          go_simp
          try with_reducible rfl
        simp only [Act.put]
        refine wpAnyH_take (i := 24) (oi := _) (v := ?_) rfl (by kernel_rfl) (by kernel_rfl) (by kernel_rfl) (fun _ _ _ h => h) (Or.inl ⟨by rfl, ?hy24⟩) (by assumption) ?_
        rotate_left
        case hy24 =>
          intro w' hSw
          go_simp
          try with_reducible rfl
        simp only [Act.put]
        refine wpAnyH_take (i := 25) (oi := _) (v := ?_) rfl (by kernel_rfl) (by kernel_rfl) (by kernel_rfl) (fun _ _ _ h => h) (Or.inl ⟨by rfl, ?hy25⟩) (by assumption) ?_
        rotate_left
        case hy25 =>
          intro w' hSw
          go_simp
          try with_reducible rfl
        simp only [Act.put]
        refine wpAnyH_take (i := 26) (oi := _) (v := ?_) rfl (by kernel_rfl) (by kernel_rfl) (by kernel_rfl) (fun _ _ _ h => h) (Or.inl ⟨by rfl, ?hy26⟩) (by assumption) ?_
        rotate_left
        case hy26 =>
          intro w' hSw
          go_simp
          try with_reducible rfl
        simp only [Act.put]
        refine wpAnyH_take (i := 27) (oi := _) (v := ?_) rfl (by kernel_rfl) (by kernel_rfl) (by kernel_rfl) (fun _ _ _ h => h) (Or.inl ⟨by rfl, ?hy27⟩) (by assumption) ?_
        rotate_left
        case hy27 =>
          intro w' hSw
          go_simp
          try with_reducible rfl
        simp only [Act.put]
        refine wpAnyH_take (i := 28) (oi := _) (v := ?_) rfl (by kernel_rfl) (by kernel_rfl) (by kernel_rfl) (fun _ _ _ h => h) (Or.inl ⟨by rfl, ?hy28⟩) (by assumption) ?_
        rotate_left
        case hy28 =>
          intro w' hSw
          go_simp
          try with_reducible rfl
        simp only [Act.put]
        refine wpAnyH_take (i := 29) (oi := _) (v := ?_) rfl (by kernel_rfl) (by kernel_rfl) (by kernel_rfl) (fun _ _ _ h => h) (Or.inl ⟨by rfl, ?hy29⟩) (by assumption) ?_
        rotate_left
        case hy29 =>
          intro w' hSw
          go_simp
          try with_reducible rfl
        simp only [Act.put]
        refine wpAnyH_take (i := 32) (oi := _) (v := ?_) rfl (by kernel_rfl) (by kernel_rfl) (by kernel_rfl) (fun _ _ _ h => h) (Or.inl ⟨by rfl, ?hy32⟩) (by assumption) ?_
        rotate_left
        case hy32 =>
          intro w' hSw
          go_simp
          try with_reducible rfl
        simp only [Act.put]
        refine wpAnyH_take (i := 33) (oi := _) (v := ?_) rfl (by kernel_rfl) (by kernel_rfl) (by kernel_rfl) (fun _ _ _ h => h) (Or.inl ⟨by rfl, ?hy33⟩) (by assumption) ?_
        rotate_left
        case hy33 =>
          intro w' hSw
          go_simp
          try with_reducible rfl
        simp only [Act.put]
        refine wpAnyH_take (i := 34) (oi := _) (v := ?_) rfl (by kernel_rfl) (by kernel_rfl) (by kernel_rfl) (fun _ _ _ h => h) (Or.inl ⟨by rfl, ?hy34⟩) (by assumption) ?_
        rotate_left
        case hy34 =>
          intro w' hSw
          go_simp
          try with_reducible rfl
        simp only [Act.put]
        refine wpAnyH_take (i := 35) (oi := _) (v := ?_) rfl (by kernel_rfl) (by kernel_rfl) (by kernel_rfl) (fun _ _ _ h => h) (Or.inl ⟨by rfl, ?hy35⟩) (by assumption) ?_
        rotate_left
        case hy35 =>
          intro w' hSw
          go_simp
          try with_reducible rfl
        simp only [Act.put]
        refine wpAnyH_take (i := 36) (oi := _) (v := ?_) rfl (by kernel_rfl) (by kernel_rfl) (by kernel_rfl) (fun _ _ _ h => h) (Or.inl ⟨by rfl, ?hy36⟩) (by assumption) ?_
        rotate_left
        case hy36 =>
          intro w' hSw
          go_simp
          try with_reducible rfl
        simp only [Act.put]
        refine wpAnyH_take (i := 37) (oi := _) (v := ?_) rfl (by kernel_rfl) (by kernel_rfl) (by kernel_rfl) (fun _ _ _ h => h) (Or.inl ⟨by rfl, ?hy37⟩) (by assumption) ?_
        rotate_left
        case hy37 =>
          intro w' hSw
          go_simp
          try with_reducible rfl
        simp only [Act.put]
        refine five_go (B := w.heap.size + 1) (n := k) (v := v) (xs := colTo l k) (x := fun c => fld c a) ⟨?fs, ?fb, ?fa, ?fg⟩ ?fl ?fli ?fS hlt2 ?fz (by omega) ?fv ?fx ?fo HAp.out ?fe
        case fs => kernel_rfl
        case fl => simp only [Array.size_setIfInBounds, Array.size_replicate]
        case fli => kernel_rfl
        case fS => exact fun w' h => hS0.trans h
        case fz => exact of_decide_eq_true (by kernel_rfl)
        case fo => exact fun c hc => HO2.out c hc
        case fb =>
          intro c hc
          have : c = 0 ∨ c = 1 ∨ c = 2 ∨ c = 3 ∨ c = 4 := by omega
          rcases this with rfl | rfl | rfl | rfl | rfl <;> exact ⟨_, _, _, rfl, by intro e he; simp at he; rw [he]⟩
        case fa =>
          intro c hc
          have : c = 0 ∨ c = 1 ∨ c = 2 ∨ c = 3 ∨ c = 4 := by omega
          rcases this with rfl | rfl | rfl | rfl | rfl
          · exact ⟨_, _, _, rfl, ⟨⟨6, .data⟩, by simp, rfl, rfl⟩, (fun h => by omega), by intro e he; simp at he; rcases he with rfl | rfl <;> simp⟩
          · exact ⟨_, _, _, rfl, ⟨⟨14, .data⟩, by simp, rfl, rfl⟩, (fun _ => ⟨⟨7, .chain⟩, by simp, rfl, rfl⟩), by intro e he; simp at he; rcases he with rfl | rfl | rfl <;> simp⟩
          · exact ⟨_, _, _, rfl, ⟨⟨22, .data⟩, by simp, rfl, rfl⟩, (fun _ => ⟨⟨15, .chain⟩, by simp, rfl, rfl⟩), by intro e he; simp at he; rcases he with rfl | rfl | rfl <;> simp⟩
          · exact ⟨_, _, _, rfl, ⟨⟨30, .data⟩, by simp, rfl, rfl⟩, (fun _ => ⟨⟨23, .chain⟩, by simp, rfl, rfl⟩), by intro e he; simp at he; rcases he with rfl | rfl | rfl <;> simp⟩
          · exact ⟨_, _, _, rfl, ⟨⟨38, .data⟩, by simp, rfl, rfl⟩, (fun _ => ⟨⟨31, .chain⟩, by simp, rfl, rfl⟩), by intro e he; simp at he; rcases he with rfl | rfl | rfl <;> simp⟩
        case fg =>
          intro i h1 h2
          have : i = 40 ∨ i = 41 ∨ i = 42 ∨ i = 43 ∨ i = 44 := by omega
          rcases this with rfl | rfl | rfl | rfl | rfl
          all_goals exact ⟨_, rfl, any_edge (by kernel_rfl)⟩
        case fv =>
          intro c hc
          have : c = 0 ∨ c = 1 ∨ c = 2 ∨ c = 3 ∨ c = 4 := by omega
          rcases this with rfl | rfl | rfl | rfl | rfl <;> simp
        case fx =>
          intro c hc
          have : c = 0 ∨ c = 1 ∨ c = 2 ∨ c = 3 ∨ c = 4 := by omega
          rcases this with rfl | rfl | rfl | rfl | rfl <;> simp [fld]
        case fe =>
          intro st bs ps gs listed a' w' h2 h5
          rw [h5.list_end h2, h5.act_end h2 (of_decide_eq_true (by kernel_rfl))]
          have hS1 : Below (w.heap.size + 1) W0 w' := hS0.trans h5.below
          have HO3 : Hid (∀ c, c < 5 → w'.ownsRow (w.heap.size + 1) 3 1 (ps c) (k + 1) (colTo l (k + 1) c)) := fun c hc => by rw [HC.out c]; exact h5.row2 c hc (h2 c hc)
          have HAp3 : Hid (Apart ps) := by
            intro c hc d hd hne g hg
            have e : ∀ c, c < 5 → curOf st v ps c = ps c := fun c hc => by unfold curOf; rw [if_pos (h2 c hc)]
            have := h5.dis c hc d hd hne g (by rw [e c hc]; exact hg)
            rw [e d hd] at this
            exact this
          have Hblk3 : Hid (Blk w' w.heap.size 23 #[.int .i64 0, .int .i64 0, .int .i64 0, .int .i64 0, .int .i64 0]) := Hblk2.out.below hS1 (by omega)
          have Hb3 : Hid (Below w.heap.size w w') := Hb2.out.trans (hS1.mono (by omega))
          clear h5 HO2 HAp Hblk2 Hb2 c0 c1 c2 c3 c4 hS0 HC HA
          simp only [Act.put]
          refine wpAnyH_take (i := 40) (oi := _) (v := ?_) rfl (by kernel_rfl) (by kernel_rfl) (by kernel_rfl) (fun _ _ _ h => h) (Or.inl ⟨by rfl, ?hy40⟩) (by assumption) ?_
          rotate_left
          case hy40 =>
            intro w' hSw
            go_simp
            try with_reducible rfl
          simp only [Act.put]
          refine wpAnyH_take (i := 41) (oi := _) (v := ?_) rfl (by kernel_rfl) (by kernel_rfl) (by kernel_rfl) (fun _ _ _ h => h) (Or.inl ⟨by rfl, ?hy41⟩) (by assumption) ?_
          rotate_left
          case hy41 =>
            intro w' hSw
            go_simp
            try with_reducible rfl
          simp only [Act.put]
          refine wpAnyH_take (i := 42) (oi := _) (v := ?_) rfl (by kernel_rfl) (by kernel_rfl) (by kernel_rfl) (fun _ _ _ h => h) (Or.inl ⟨by rfl, ?hy42⟩) (by assumption) ?_
          rotate_left
          case hy42 =>
            intro w' hSw
            go_simp
            try with_reducible rfl
          simp only [Act.put]
          refine wpAnyH_take (i := 43) (oi := _) (v := ?_) rfl (by kernel_rfl) (by kernel_rfl) (by kernel_rfl) (fun _ _ _ h => h) (Or.inl ⟨by rfl, ?hy43⟩) (by assumption) ?_
          rotate_left
          case hy43 =>
            intro w' hSw
            go_simp
            try with_reducible rfl
          simp only [Act.put]
          refine wpAnyH_take (i := 44) (oi := _) (v := ?_) rfl (by kernel_rfl) (by kernel_rfl) (by kernel_rfl) (fun _ _ _ h => h) (Or.inl ⟨by rfl, ?hy44⟩) (by assumption) ?_
          rotate_left
          case hy44 =>
            intro w' hSw
            go_simp
            try with_reducible rfl
          simp only [Act.put]
          refine wpAnyH_done (by kernel_rfl) ?_ _
          go_wp2_with fail
          go_roundw
          case rel => exact ⟨k + 1, ps, by omega, by go_num, rfl, rfl, rfl, rfl, rfl, HO3, HAp3, HA', Hblk3, Hb3⟩
          case measure => simp [intOf]; omega
    · obtain rfl : k = n := by omega
      have hkn' : l.take k = l := List.take_of_length_le (by rw [Hln.out]; omega)
      rw [hkn'] at HA
      clear hkn'
      have hcol : ∀ c, colTo l k c = (l.map (fld c)).map (Value.int .i64) := fun c => by unfold colTo; rw [List.take_of_length_le (by rw [List.length_map, Hln.out]; omega)]
      have HS : Hid (∀ c, c < 5 → ∃ A q, v c = .slice A k q ∧ Calls Tryd.prog 30 #[.slice A k q] wr fun e w' => e = .returned (.tuple #[.int .i64 (sumV (l.map (fld c)).sum), .int .i64 (sumE (l.map (fld c)).sum)]) ∧ wr = w') := by
        intro c hc
        obtain ⟨A', q, e⟩ := own_slice (HO.out c hc)
        have hown := HO.out c hc
        rw [e, hcol c] at hown
        exact ⟨A', q, e, ref01Sum_any A' k q wr.heap.size (l.map (fld c)) wr (Reads.of_own hown) (by omega) (all_I64 (fun a ha => fld_In c a (HI.out a ha)))⟩
      clear hcol
      obtain ⟨A0, q0, e0, s0⟩ := HS.out 0 (by omega)
      obtain ⟨A1, q1, e1, s1⟩ := HS.out 1 (by omega)
      obtain ⟨A2, q2, e2, s2⟩ := HS.out 2 (by omega)
      obtain ⟨A3, q3, e3, s3⟩ := HS.out 3 (by omega)
      obtain ⟨A4, q4, e4, s4⟩ := HS.out 4 (by omega)
      have S0 := Lib.hid s0; have S1 := Lib.hid s1; have S2 := Lib.hid s2; have S3 := Lib.hid s3; have S4 := Lib.hid s4
      clear s0 s1 s2 s3 s4 HS HO HAp
      rw [e0, e1, e2, e3, e4]
      clear e0 e1 e2 e3 e4 v
      have HOk := Lib.hid (sum_all (l.map (fld 0)).sum (l.map (fld 1)).sum (l.map (fld 2)).sum (l.map (fld 3)).sum (l.map (fld 4)).sum)
      have HNo := Lib.hid (sum_not (l.map (fld 0)).sum (l.map (fld 1)).sum (l.map (fld 2)).sum (l.map (fld 3)).sum (l.map (fld 4)).sum)
      have Hbb : Hid ((sumWt l).okB = okW (l.map (fld 0)).sum (l.map (fld 1)).sum (l.map (fld 2)).sum (l.map (fld 3)).sum (l.map (fld 4)).sum) := rfl
      have HW : Hid ((sumWt l).val = .agg #[.int .i64 (l.map (fld 0)).sum, .int .i64 (l.map (fld 1)).sum, .int .i64 (l.map (fld 2)).sum, .int .i64 (l.map (fld 3)).sum, .int .i64 (l.map (fld 4)).sum]) := rfl
      have z0 := Hblk.out.cell 0; have z1 := Hblk.out.cell 1; have z2 := Hblk.out.cell 2; have z3 := Hblk.out.cell 3; have z4 := Hblk.out.cell 4
      simp at z0 z1 z2 z3 z4
      have f0 := Hblk.out.frozen 0; have f1 := Hblk.out.frozen 1; have f2 := Hblk.out.frozen 2; have f3 := Hblk.out.frozen 3; have f4 := Hblk.out.frozen 4
      cases hok : (sumWt l).okB
      · have HR : Hid ((sumVal l).val = zeroW.val ∧ sumErr l = 21) := by unfold Hid sumVal sumErr sumR sumX; rw [HA.out, hok]; exact ⟨rfl, rfl⟩
        have hd := HNo.out (Hbb.out ▸ hok)
        clear hok HOk HNo Hbb HW
        generalize sumV (l.map (fld 0)).sum = V0 at *
        generalize sumV (l.map (fld 1)).sum = V1 at *
        generalize sumV (l.map (fld 2)).sum = V2 at *
        generalize sumV (l.map (fld 3)).sum = V3 at *
        generalize sumV (l.map (fld 4)).sum = V4 at *
        generalize sumE (l.map (fld 0)).sum = E0 at *
        generalize sumE (l.map (fld 1)).sum = E1 at *
        generalize sumE (l.map (fld 2)).sum = E2 at *
        generalize sumE (l.map (fld 3)).sum = E3 at *
        generalize sumE (l.map (fld 4)).sum = E4 at *
        have HD := Lib.hid hd; clear hd
        go_wp2_with fail
        refine S0.out.mono ?_
        rintro e w' ⟨rfl, rfl⟩
        go_wp2_with fail
        refine S1.out.mono ?_
        rintro e w' ⟨rfl, rfl⟩
        go_wp2_with fail
        refine S2.out.mono ?_
        rintro e w' ⟨rfl, rfl⟩
        go_wp2_with fail
        refine S3.out.mono ?_
        rintro e w' ⟨rfl, rfl⟩
        go_wp2_with fail
        refine S4.out.mono ?_
        rintro e w' ⟨rfl, rfl⟩
        clear S0 S1 S2 S3 S4
        by_cases g0 : E0 = 0
        rotate_left
        · have b0 : (E0 != 0) = true := by simpa using g0
          clear g0 HD
          go_wp2_with fail
          refine bodyPost_ret (results_cell_tmp rfl _ _ w.heap.size 23 #[.int .i64 0, .int .i64 0, .int .i64 0, .int .i64 0, .int .i64 0] _ rfl (by first | with_reducible exact (blk_set5 Hblk.out _ _ _ _ _).alloc _ | with_reducible exact ((blk_set5 Hblk.out _ _ _ _ _).alloc _).alloc _) Tryd.underlying23 rfl (by kernel_rfl)) rfl ⟨by rw [HR.out.1, HR.out.2]; rfl, ?_⟩
          have Hb' := Hb.out
          have Hz := Hb'.size
          go_grown
        subst g0
        by_cases g1 : E1 = 0
        rotate_left
        · have b1 : (E1 != 0) = true := by simpa using g1
          clear g1 HD
          go_wp2_with fail
          refine bodyPost_ret (results_cell_tmp rfl _ _ w.heap.size 23 #[.int .i64 0, .int .i64 0, .int .i64 0, .int .i64 0, .int .i64 0] _ rfl (by first | with_reducible exact (blk_set5 Hblk.out _ _ _ _ _).alloc _ | with_reducible exact ((blk_set5 Hblk.out _ _ _ _ _).alloc _).alloc _) Tryd.underlying23 rfl (by kernel_rfl)) rfl ⟨by rw [HR.out.1, HR.out.2]; rfl, ?_⟩
          have Hb' := Hb.out
          have Hz := Hb'.size
          go_grown
        subst g1
        by_cases g2 : E2 = 0
        rotate_left
        · have b2 : (E2 != 0) = true := by simpa using g2
          clear g2 HD
          go_wp2_with fail
          refine bodyPost_ret (results_cell_tmp rfl _ _ w.heap.size 23 #[.int .i64 0, .int .i64 0, .int .i64 0, .int .i64 0, .int .i64 0] _ rfl (by first | with_reducible exact (blk_set5 Hblk.out _ _ _ _ _).alloc _ | with_reducible exact ((blk_set5 Hblk.out _ _ _ _ _).alloc _).alloc _) Tryd.underlying23 rfl (by kernel_rfl)) rfl ⟨by rw [HR.out.1, HR.out.2]; rfl, ?_⟩
          have Hb' := Hb.out
          have Hz := Hb'.size
          go_grown
        subst g2
        by_cases g3 : E3 = 0
        rotate_left
        · have b3 : (E3 != 0) = true := by simpa using g3
          clear g3 HD
          go_wp2_with fail
          refine bodyPost_ret (results_cell_tmp rfl _ _ w.heap.size 23 #[.int .i64 0, .int .i64 0, .int .i64 0, .int .i64 0, .int .i64 0] _ rfl (by first | with_reducible exact (blk_set5 Hblk.out _ _ _ _ _).alloc _ | with_reducible exact ((blk_set5 Hblk.out _ _ _ _ _).alloc _).alloc _) Tryd.underlying23 rfl (by kernel_rfl)) rfl ⟨by rw [HR.out.1, HR.out.2]; rfl, ?_⟩
          have Hb' := Hb.out
          have Hz := Hb'.size
          go_grown
        subst g3
        by_cases g4 : E4 = 0
        rotate_left
        · have b4 : (E4 != 0) = true := by simpa using g4
          clear g4 HD
          go_wp2_with fail
          refine bodyPost_ret (results_cell_tmp rfl _ _ w.heap.size 23 #[.int .i64 0, .int .i64 0, .int .i64 0, .int .i64 0, .int .i64 0] _ rfl (by first | with_reducible exact (blk_set5 Hblk.out _ _ _ _ _).alloc _ | with_reducible exact ((blk_set5 Hblk.out _ _ _ _ _).alloc _).alloc _) Tryd.underlying23 rfl (by kernel_rfl)) rfl ⟨by rw [HR.out.1, HR.out.2]; rfl, ?_⟩
          have Hb' := Hb.out
          have Hz := Hb'.size
          go_grown
        subst g4
        have he : chkE V0 V1 V2 V3 V4 = 9 := by
          rcases HD.out with h | h
          · simp at h
          · exact h
        clear HD
        go_wp2_with (go_at_call 14; refine (refCheck_at _ _ _ _ _ _).mono ?_; rintro e w' ⟨rfl, rfl⟩)
        refine bodyPost_ret (results_cell_tmp rfl _ _ w.heap.size 23 #[.int .i64 0, .int .i64 0, .int .i64 0, .int .i64 0, .int .i64 0] _ rfl (by first | with_reducible exact (blk_set5 Hblk.out _ _ _ _ _).alloc _ | with_reducible exact ((blk_set5 Hblk.out _ _ _ _ _).alloc _).alloc _) Tryd.underlying23 rfl (by kernel_rfl)) rfl ⟨by rw [HR.out.1, HR.out.2]; rfl, ?_⟩
        have Hb' := Hb.out
        have Hz := Hb'.size
        go_grown
      · have HR : Hid ((sumVal l).val = (sumWt l).val ∧ sumErr l = 0) := by unfold Hid sumVal sumErr sumR sumX; rw [HA.out, hok]; exact ⟨rfl, rfl⟩
        obtain ⟨k1, h0, h1, h2, h3, h4⟩ := HOk.out (Hbb.out ▸ hok)
        simp only [Bool.and_eq_true, beq_iff_eq, true_and] at k1
        obtain ⟨⟨⟨⟨x0, x1⟩, x2⟩, x3⟩, x4⟩ := k1
        rw [h0, x0] at S0; rw [h1, x1] at S1; rw [h2, x2] at S2; rw [h3, x3] at S3; rw [h4, x4] at S4
        have he : chkE (l.map (fld 0)).sum (l.map (fld 1)).sum (l.map (fld 2)).sum (l.map (fld 3)).sum (l.map (fld 4)).sum = 0 := by unfold chkE; exact if_pos (Hbb.out ▸ hok)
        clear hok HOk HNo Hbb h0 h1 h2 h3 h4 x0 x1 x2 x3 x4
        generalize (l.map (fld 0)).sum = V0 at *
        generalize (l.map (fld 1)).sum = V1 at *
        generalize (l.map (fld 2)).sum = V2 at *
        generalize (l.map (fld 3)).sum = V3 at *
        generalize (l.map (fld 4)).sum = V4 at *
        go_wp2_with fail
        refine S0.out.mono ?_
        rintro e w' ⟨rfl, rfl⟩
        go_wp2_with fail
        refine S1.out.mono ?_
        rintro e w' ⟨rfl, rfl⟩
        go_wp2_with fail
        refine S2.out.mono ?_
        rintro e w' ⟨rfl, rfl⟩
        go_wp2_with fail
        refine S3.out.mono ?_
        rintro e w' ⟨rfl, rfl⟩
        go_wp2_with fail
        refine S4.out.mono ?_
        rintro e w' ⟨rfl, rfl⟩
        go_wp2_with (go_at_call 14; refine (refCheck_at _ _ _ _ _ _).mono ?_; rintro e w' ⟨rfl, rfl⟩)
        refine bodyPost_ret (results_cell_tmp rfl _ _ w.heap.size 23 #[.int .i64 V0, .int .i64 V1, .int .i64 V2, .int .i64 V3, .int .i64 V4] _ rfl (by with_reducible exact ((blk_set5 Hblk.out _ _ _ _ _).alloc _).alloc _) Tryd.underlying23 rfl (by kernel_rfl)) rfl ⟨by rw [HR.out.1, HR.out.2, HW.out]; rfl, ?_⟩
        have Hb' := Hb.out
        have Hz := Hb'.size
        go_grown
end Go.Proofs.YtfgeocpooimojaaDoor
