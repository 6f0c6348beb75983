/-
  What the sum of a list of weights, and Sum and Add of package weight, return. Conditions: as each theorem states them. What the sum of a list of weights, and Sum and Add of package weight, return. Conditions: as each theorem states them.
-/
import Derived.Test.YtfgeocpooimojaaDoorQPfWeightCentres13
namespace Go.Proofs.YtfgeocpooimojaaDoor
open Go Go.RowKit

set_option maxHeartbeats 1000000 in
theorem sum1_mass (A : Option Addr) (n c g : Nat) (l : List Wt) (b : Bool) (cs : Array Value) (w : World) (hr : Reads w g 5 A n (wtCells l)) (hln : l.length = n) (hn : n ≤ 1000000) (hI : ∀ a ∈ l, I64 a.m)
    (h0 : Blk w g 23 cs) (hcs : cs.size = 5) (h1 : Blk w (g + 1) 3 #[.int .i64 n]) (h2 : Blk w (g + 2) 4 #[.bool b]) :
    Calls Tryd.prog 51 #[.pointer (some ⟨g, 0, none⟩), .func (.func 53) #[.slice A n c] #[], .pointer (some ⟨g + 1, 0, none⟩), .pointer (some ⟨g + 2, 0, none⟩)] w fun e w' =>
      e = .returned (.tuple #[]) ∧ Blk w' g 23 (cs.setIfInBounds 0 (.int .i64 (sumV (l.map Wt.m).sum))) ∧ Blk w' (g + 1) 3 #[.int .i64 n] ∧ Blk w' (g + 2) 4 #[.bool (b && (sumE (l.map Wt.m).sum == 0))] ∧ Below g w w' := by
  have HT := Lib.hid (total_mass A n c l w (hr.more (Nat.le_of_lt h0.lt)) hln hn hI)
  have H0 := Lib.hid h0; have H1 := Lib.hid h1; have H2 := Lib.hid h2; have Hcs := Lib.hid hcs
  clear hr hln hI h0 h1 h2 hcs
  have c1 : w.cell? ⟨g + 1, 0, none⟩ = some (.int .i64 n) := H1.out.cell 0
  generalize sumV (l.map Wt.m).sum = V at *
  generalize (sumE (l.map Wt.m).sum == 0) = K at *
  go_enter Tryd.func51, Tryd.ntmps51
  go_wp2_with (go_at_call 52; refine HT.out.mono ?_; rintro e w1 ⟨rfl, hb⟩; have Hb := Lib.hid hb; have B0 := Lib.hid (H0.out.below hb H0.out.lt); have B1 := Lib.hid (H1.out.below hb H1.out.lt); have B2 := Lib.hid (H2.out.below hb H2.out.lt); obtain ⟨v0, k0⟩ : ∃ v0, w1.cell? ⟨g, 0, none⟩ = some v0 := ⟨_, (B0.out.cell 0).trans (Array.getElem?_eq_getElem (by rw [Hcs.out]; omega))⟩; have f0 := B0.out.frozen 0; have k2 : w1.cell? ⟨g + 2, 0, none⟩ = some (.bool b) := B2.out.cell 0; have f2 := B2.out.frozen 0; clear hb c1)
  all_goals
    go_end0
    refine ⟨rfl, ((B0.out.set_ 0 _).far (by simp) _), ((B1.out.far (by simp) _).far (by simp) _), ?_, ((Hb.out.mono (Nat.le_of_lt H0.out.lt)).setCell (Nat.le_refl _) _).setCell (by simp) _⟩
    have := (B2.out.far (p := ⟨g, 0, none⟩) (by simp) (.int .i64 V)).set_ 0 (.bool (b && K))
    simpa [*] using this

set_option maxHeartbeats 1000000 in
theorem sum1_x (A : Option Addr) (n c g : Nat) (l : List Wt) (b : Bool) (cs : Array Value) (w : World) (hr : Reads w g 5 A n (wtCells l)) (hln : l.length = n) (hn : n ≤ 1000000) (hI : ∀ a ∈ l, I64 a.x)
    (h0 : Blk w g 23 cs) (hcs : cs.size = 5) (h1 : Blk w (g + 1) 3 #[.int .i64 n]) (h2 : Blk w (g + 2) 4 #[.bool b]) :
    Calls Tryd.prog 51 #[.pointer (some ⟨g, 1, none⟩), .func (.func 54) #[.slice A n c] #[], .pointer (some ⟨g + 1, 0, none⟩), .pointer (some ⟨g + 2, 0, none⟩)] w fun e w' =>
      e = .returned (.tuple #[]) ∧ Blk w' g 23 (cs.setIfInBounds 1 (.int .i64 (sumV (l.map Wt.x).sum))) ∧ Blk w' (g + 1) 3 #[.int .i64 n] ∧ Blk w' (g + 2) 4 #[.bool (b && (sumE (l.map Wt.x).sum == 0))] ∧ Below g w w' := by
  have HT := Lib.hid (total_x A n c l w (hr.more (Nat.le_of_lt h0.lt)) hln hn hI)
  have H0 := Lib.hid h0; have H1 := Lib.hid h1; have H2 := Lib.hid h2; have Hcs := Lib.hid hcs
  clear hr hln hI h0 h1 h2 hcs
  have c1 : w.cell? ⟨g + 1, 0, none⟩ = some (.int .i64 n) := H1.out.cell 0
  generalize sumV (l.map Wt.x).sum = V at *
  generalize (sumE (l.map Wt.x).sum == 0) = K at *
  go_enter Tryd.func51, Tryd.ntmps51
  go_wp2_with (go_at_call 52; refine HT.out.mono ?_; rintro e w1 ⟨rfl, hb⟩; have Hb := Lib.hid hb; have B0 := Lib.hid (H0.out.below hb H0.out.lt); have B1 := Lib.hid (H1.out.below hb H1.out.lt); have B2 := Lib.hid (H2.out.below hb H2.out.lt); obtain ⟨v0, k0⟩ : ∃ v0, w1.cell? ⟨g, 1, none⟩ = some v0 := ⟨_, (B0.out.cell 1).trans (Array.getElem?_eq_getElem (by rw [Hcs.out]; omega))⟩; have f0 := B0.out.frozen 1; have k2 : w1.cell? ⟨g + 2, 0, none⟩ = some (.bool b) := B2.out.cell 0; have f2 := B2.out.frozen 0; clear hb c1)
  all_goals
    go_end0
    refine ⟨rfl, ((B0.out.set_ 1 _).far (by simp) _), ((B1.out.far (by simp) _).far (by simp) _), ?_, ((Hb.out.mono (Nat.le_of_lt H0.out.lt)).setCell (Nat.le_refl _) _).setCell (by simp) _⟩
    have := (B2.out.far (p := ⟨g, 1, none⟩) (by simp) (.int .i64 V)).set_ 0 (.bool (b && K))
    simpa [*] using this

set_option maxHeartbeats 1000000 in
theorem sum1_y (A : Option Addr) (n c g : Nat) (l : List Wt) (b : Bool) (cs : Array Value) (w : World) (hr : Reads w g 5 A n (wtCells l)) (hln : l.length = n) (hn : n ≤ 1000000) (hI : ∀ a ∈ l, I64 a.y)
    (h0 : Blk w g 23 cs) (hcs : cs.size = 5) (h1 : Blk w (g + 1) 3 #[.int .i64 n]) (h2 : Blk w (g + 2) 4 #[.bool b]) :
    Calls Tryd.prog 51 #[.pointer (some ⟨g, 2, none⟩), .func (.func 55) #[.slice A n c] #[], .pointer (some ⟨g + 1, 0, none⟩), .pointer (some ⟨g + 2, 0, none⟩)] w fun e w' =>
      e = .returned (.tuple #[]) ∧ Blk w' g 23 (cs.setIfInBounds 2 (.int .i64 (sumV (l.map Wt.y).sum))) ∧ Blk w' (g + 1) 3 #[.int .i64 n] ∧ Blk w' (g + 2) 4 #[.bool (b && (sumE (l.map Wt.y).sum == 0))] ∧ Below g w w' := by
  have HT := Lib.hid (total_y A n c l w (hr.more (Nat.le_of_lt h0.lt)) hln hn hI)
  have H0 := Lib.hid h0; have H1 := Lib.hid h1; have H2 := Lib.hid h2; have Hcs := Lib.hid hcs
  clear hr hln hI h0 h1 h2 hcs
  have c1 : w.cell? ⟨g + 1, 0, none⟩ = some (.int .i64 n) := H1.out.cell 0
  generalize sumV (l.map Wt.y).sum = V at *
  generalize (sumE (l.map Wt.y).sum == 0) = K at *
  go_enter Tryd.func51, Tryd.ntmps51
  go_wp2_with (go_at_call 52; refine HT.out.mono ?_; rintro e w1 ⟨rfl, hb⟩; have Hb := Lib.hid hb; have B0 := Lib.hid (H0.out.below hb H0.out.lt); have B1 := Lib.hid (H1.out.below hb H1.out.lt); have B2 := Lib.hid (H2.out.below hb H2.out.lt); obtain ⟨v0, k0⟩ : ∃ v0, w1.cell? ⟨g, 2, none⟩ = some v0 := ⟨_, (B0.out.cell 2).trans (Array.getElem?_eq_getElem (by rw [Hcs.out]; omega))⟩; have f0 := B0.out.frozen 2; have k2 : w1.cell? ⟨g + 2, 0, none⟩ = some (.bool b) := B2.out.cell 0; have f2 := B2.out.frozen 0; clear hb c1)
  all_goals
    go_end0
    refine ⟨rfl, ((B0.out.set_ 2 _).far (by simp) _), ((B1.out.far (by simp) _).far (by simp) _), ?_, ((Hb.out.mono (Nat.le_of_lt H0.out.lt)).setCell (Nat.le_refl _) _).setCell (by simp) _⟩
    have := (B2.out.far (p := ⟨g, 2, none⟩) (by simp) (.int .i64 V)).set_ 0 (.bool (b && K))
    simpa [*] using this

set_option maxHeartbeats 1000000 in
theorem sum1_z (A : Option Addr) (n c g : Nat) (l : List Wt) (b : Bool) (cs : Array Value) (w : World) (hr : Reads w g 5 A n (wtCells l)) (hln : l.length = n) (hn : n ≤ 1000000) (hI : ∀ a ∈ l, I64 a.z)
    (h0 : Blk w g 23 cs) (hcs : cs.size = 5) (h1 : Blk w (g + 1) 3 #[.int .i64 n]) (h2 : Blk w (g + 2) 4 #[.bool b]) :
    Calls Tryd.prog 51 #[.pointer (some ⟨g, 3, none⟩), .func (.func 56) #[.slice A n c] #[], .pointer (some ⟨g + 1, 0, none⟩), .pointer (some ⟨g + 2, 0, none⟩)] w fun e w' =>
      e = .returned (.tuple #[]) ∧ Blk w' g 23 (cs.setIfInBounds 3 (.int .i64 (sumV (l.map Wt.z).sum))) ∧ Blk w' (g + 1) 3 #[.int .i64 n] ∧ Blk w' (g + 2) 4 #[.bool (b && (sumE (l.map Wt.z).sum == 0))] ∧ Below g w w' := by
  have HT := Lib.hid (total_z A n c l w (hr.more (Nat.le_of_lt h0.lt)) hln hn hI)
  have H0 := Lib.hid h0; have H1 := Lib.hid h1; have H2 := Lib.hid h2; have Hcs := Lib.hid hcs
  clear hr hln hI h0 h1 h2 hcs
  have c1 : w.cell? ⟨g + 1, 0, none⟩ = some (.int .i64 n) := H1.out.cell 0
  generalize sumV (l.map Wt.z).sum = V at *
  generalize (sumE (l.map Wt.z).sum == 0) = K at *
  go_enter Tryd.func51, Tryd.ntmps51
  go_wp2_with (go_at_call 52; refine HT.out.mono ?_; rintro e w1 ⟨rfl, hb⟩; have Hb := Lib.hid hb; have B0 := Lib.hid (H0.out.below hb H0.out.lt); have B1 := Lib.hid (H1.out.below hb H1.out.lt); have B2 := Lib.hid (H2.out.below hb H2.out.lt); obtain ⟨v0, k0⟩ : ∃ v0, w1.cell? ⟨g, 3, none⟩ = some v0 := ⟨_, (B0.out.cell 3).trans (Array.getElem?_eq_getElem (by rw [Hcs.out]; omega))⟩; have f0 := B0.out.frozen 3; have k2 : w1.cell? ⟨g + 2, 0, none⟩ = some (.bool b) := B2.out.cell 0; have f2 := B2.out.frozen 0; clear hb c1)
  all_goals
    go_end0
    refine ⟨rfl, ((B0.out.set_ 3 _).far (by simp) _), ((B1.out.far (by simp) _).far (by simp) _), ?_, ((Hb.out.mono (Nat.le_of_lt H0.out.lt)).setCell (Nat.le_refl _) _).setCell (by simp) _⟩
    have := (B2.out.far (p := ⟨g, 3, none⟩) (by simp) (.int .i64 V)).set_ 0 (.bool (b && K))
    simpa [*] using this

set_option maxHeartbeats 1000000 in
theorem sum1_variance (A : Option Addr) (n c g : Nat) (l : List Wt) (b : Bool) (cs : Array Value) (w : World) (hr : Reads w g 5 A n (wtCells l)) (hln : l.length = n) (hn : n ≤ 1000000) (hI : ∀ a ∈ l, I64 a.v)
    (h0 : Blk w g 23 cs) (hcs : cs.size = 5) (h1 : Blk w (g + 1) 3 #[.int .i64 n]) (h2 : Blk w (g + 2) 4 #[.bool b]) :
    Calls Tryd.prog 51 #[.pointer (some ⟨g, 4, none⟩), .func (.func 57) #[.slice A n c] #[], .pointer (some ⟨g + 1, 0, none⟩), .pointer (some ⟨g + 2, 0, none⟩)] w fun e w' =>
      e = .returned (.tuple #[]) ∧ Blk w' g 23 (cs.setIfInBounds 4 (.int .i64 (sumV (l.map Wt.v).sum))) ∧ Blk w' (g + 1) 3 #[.int .i64 n] ∧ Blk w' (g + 2) 4 #[.bool (b && (sumE (l.map Wt.v).sum == 0))] ∧ Below g w w' := by
  have HT := Lib.hid (total_variance A n c l w (hr.more (Nat.le_of_lt h0.lt)) hln hn hI)
  have H0 := Lib.hid h0; have H1 := Lib.hid h1; have H2 := Lib.hid h2; have Hcs := Lib.hid hcs
  clear hr hln hI h0 h1 h2 hcs
  have c1 : w.cell? ⟨g + 1, 0, none⟩ = some (.int .i64 n) := H1.out.cell 0
  generalize sumV (l.map Wt.v).sum = V at *
  generalize (sumE (l.map Wt.v).sum == 0) = K at *
  go_enter Tryd.func51, Tryd.ntmps51
  go_wp2_with (go_at_call 52; refine HT.out.mono ?_; rintro e w1 ⟨rfl, hb⟩; have Hb := Lib.hid hb; have B0 := Lib.hid (H0.out.below hb H0.out.lt); have B1 := Lib.hid (H1.out.below hb H1.out.lt); have B2 := Lib.hid (H2.out.below hb H2.out.lt); obtain ⟨v0, k0⟩ : ∃ v0, w1.cell? ⟨g, 4, none⟩ = some v0 := ⟨_, (B0.out.cell 4).trans (Array.getElem?_eq_getElem (by rw [Hcs.out]; omega))⟩; have f0 := B0.out.frozen 4; have k2 : w1.cell? ⟨g + 2, 0, none⟩ = some (.bool b) := B2.out.cell 0; have f2 := B2.out.frozen 0; clear hb c1)
  all_goals
    go_end0
    refine ⟨rfl, ((B0.out.set_ 4 _).far (by simp) _), ((B1.out.far (by simp) _).far (by simp) _), ?_, ((Hb.out.mono (Nat.le_of_lt H0.out.lt)).setCell (Nat.le_refl _) _).setCell (by simp) _⟩
    have := (B2.out.far (p := ⟨g, 4, none⟩) (by simp) (.int .i64 V)).set_ 0 (.bool (b && K))
    simpa [*] using this
end Go.Proofs.YtfgeocpooimojaaDoor
namespace Go.Proofs.YtfgeocpooimojaaDoor
open Go Go.RowKit

/-- The exact sum of a list of weights. -/
def sumWt (l : List Wt) : Wt := ⟨(l.map Wt.m).sum, (l.map Wt.x).sum, (l.map Wt.y).sum, (l.map Wt.z).sum, (l.map Wt.v).sum⟩
def Wt.okB (a : Wt) : Bool := okW a.m a.x a.y a.z a.v
def zeroW : Wt := ⟨0, 0, 0, 0, 0⟩
/-- What the sum of weights returns. -/
def sumR (l : List Wt) : Wt := if (sumWt l).okB then sumWt l else zeroW
def sumX (l : List Wt) : Int := if (sumWt l).okB then 0 else 21
theorem sum_fits (s : Int) (h : -1152921504606846976 ≤ s ∧ s ≤ 1152921504606846976) : sumV s = s ∧ sumE s = 0 := by
  unfold sumV sumE; rw [if_pos (by omega), if_pos (by omega)]; exact ⟨rfl, rfl⟩
theorem sum_all (a b c d e : Int) (h : okW a b c d e = true) : (((((true && (sumE a == 0)) && (sumE b == 0)) && (sumE c == 0)) && (sumE d == 0)) && (sumE e == 0)) = true ∧ sumV a = a ∧ sumV b = b ∧ sumV c = c ∧ sumV d = d ∧ sumV e = e := by
  have h' := (okW_iff _ _ _ _ _).1 h
  have ha := sum_fits a (by omega); have hb := sum_fits b (by omega); have hc := sum_fits c (by omega); have hd := sum_fits d (by omega); have he := sum_fits e (by omega)
  simp [ha, hb, hc, hd, he]
theorem sumV_of (s : Int) (h : (sumE s == 0) = true) : sumV s = s := by
  unfold sumE at h; unfold sumV
  split at h
  · rw [if_pos (by assumption)]
  · simp at h
/-- The sums do not all fit, or the check refuses. -/
theorem sum_not (a b c d e : Int) (h : okW a b c d e = false) : (((((true && (sumE a == 0)) && (sumE b == 0)) && (sumE c == 0)) && (sumE d == 0)) && (sumE e == 0)) = false ∨ chkE (sumV a) (sumV b) (sumV c) (sumV d) (sumV e) = 9 := by
  by_cases g : (((((true && (sumE a == 0)) && (sumE b == 0)) && (sumE c == 0)) && (sumE d == 0)) && (sumE e == 0)) = true
  · right
    simp only [Bool.and_eq_true, true_and] at g
    obtain ⟨⟨⟨⟨g1, g2⟩, g3⟩, g4⟩, g5⟩ := g
    rw [sumV_of _ g1, sumV_of _ g2, sumV_of _ g3, sumV_of _ g4, sumV_of _ g5]
    unfold chkE; rw [h]; rfl
  · left; simpa using g
theorem blk_set5 {w : World} {g : Nat} {t : TypeId} {a0 a1 a2 a3 a4 : Value} (h : Blk w g t #[a0, a1, a2, a3, a4]) (b0 b1 b2 b3 b4 : Value) :
    Blk (((((w.setCell ⟨g, 0, none⟩ b0).setCell ⟨g, 1, none⟩ b1).setCell ⟨g, 2, none⟩ b2).setCell ⟨g, 3, none⟩ b3).setCell ⟨g, 4, none⟩ b4) g t #[b0, b1, b2, b3, b4] :=
  ((((h.set_ 0 b0).set_ 1 b1).set_ 2 b2).set_ 3 b3).set_ 4 b4
theorem sum_start (w : World) (n : Nat) : Blk (((w.alloc (.cells #[.int .i64 0, .int .i64 0, .int .i64 0, .int .i64 0, .int .i64 0] 23)).alloc (.cells #[.int .i64 n] 3)).alloc (.cells #[.bool true] 4)) w.heap.size 23 #[.int .i64 0, .int .i64 0, .int .i64 0, .int .i64 0, .int .i64 0] ∧
    Blk (((w.alloc (.cells #[.int .i64 0, .int .i64 0, .int .i64 0, .int .i64 0, .int .i64 0] 23)).alloc (.cells #[.int .i64 n] 3)).alloc (.cells #[.bool true] 4)) (w.heap.size + 1) 3 #[.int .i64 n] ∧
    Blk (((w.alloc (.cells #[.int .i64 0, .int .i64 0, .int .i64 0, .int .i64 0, .int .i64 0] 23)).alloc (.cells #[.int .i64 n] 3)).alloc (.cells #[.bool true] 4)) (w.heap.size + 2) 4 #[.bool true] ∧
    Below w.heap.size w (((w.alloc (.cells #[.int .i64 0, .int .i64 0, .int .i64 0, .int .i64 0, .int .i64 0] 23)).alloc (.cells #[.int .i64 n] 3)).alloc (.cells #[.bool true] 4)) := by
  refine ⟨((Blk.new w _ _).alloc _).alloc _, ?_, ?_, by go_grown⟩
  · have := (Blk.new (w.alloc (.cells #[.int .i64 0, .int .i64 0, .int .i64 0, .int .i64 0, .int .i64 0] 23)) 3 #[.int .i64 n]).alloc (.cells #[.bool true] 4)
    simpa using this
  · have := Blk.new ((w.alloc (.cells #[.int .i64 0, .int .i64 0, .int .i64 0, .int .i64 0, .int .i64 0] 23)).alloc (.cells #[.int .i64 n] 3)) 4 #[.bool true]
    simpa using this
set_option maxHeartbeats 2000000 in
theorem wsum_any (A : Option Addr) (n c : Nat) (l : List Wt) (w : World) (hr : Reads w w.heap.size 5 A n (wtCells l)) (hln : l.length = n) (hn : n ≤ 1000000) (hI : ∀ a ∈ l, a.In) :
    Calls Tryd.prog 29 #[.slice A n c] w fun e w' => e = .returned (.tuple #[(sumR l).val, .int .i64 (sumX l)]) ∧ Below w.heap.size w w' := by
  have Hr := Lib.hid hr; clear hr
  have HI := Lib.hid hI; clear hI
  have Hln := Lib.hid hln; clear hln
  have HS := Lib.hid (sum_start w n)
  have hg : 0 ≤ w.heap.size := Nat.zero_le _
  go_enter Tryd.func29, Tryd.ntmps29
  go_wp2_with fail
  obtain ⟨W0, hW0⟩ : ∃ W0, W0 = (((w.alloc (.cells #[.int .i64 0, .int .i64 0, .int .i64 0, .int .i64 0, .int .i64 0] 23)).alloc (.cells #[.int .i64 n] 3)).alloc (.cells #[.bool true] 4)) := ⟨_, rfl⟩
  rw [← hW0] at HS ⊢
  clear hW0
  have Hb := Lib.hid HS.out.2.2.2
  refine (sum1_mass A n c w.heap.size l true _ W0 (Hr.out.below Hb.out) Hln.out hn (fun a ha => (HI.out a ha).1) HS.out.1 rfl HS.out.2.1 HS.out.2.2.1).mono ?_
  rintro e w1 ⟨rfl, d0, d1, d2, db⟩
  have D0 := Lib.hid d0; have D1 := Lib.hid d1; have D2 := Lib.hid d2; have Hb1 := Lib.hid (Hb.out.trans db); clear d0 d1 d2 db HS
  go_wp2_with fail
  refine (sum1_x A n c w.heap.size l _ _ w1 (Hr.out.below Hb1.out) Hln.out hn (fun a ha => (HI.out a ha).2.1) D0.out (by simp) D1.out D2.out).mono ?_
  rintro e w2 ⟨rfl, d0, d1, d2, db⟩
  have E0 := Lib.hid d0; have E1 := Lib.hid d1; have E2 := Lib.hid d2; have Hb2 := Lib.hid (Hb1.out.trans db); clear d0 d1 d2 db D0 D1 D2
  have D0 := E0; have D1 := E1; have D2 := E2; clear E0 E1 E2
  go_wp2_with fail
  refine (sum1_y A n c w.heap.size l _ _ w2 (Hr.out.below Hb2.out) Hln.out hn (fun a ha => (HI.out a ha).2.2.1) D0.out (by simp) D1.out D2.out).mono ?_
  rintro e w3 ⟨rfl, d0, d1, d2, db⟩
  have E0 := Lib.hid d0; have E1 := Lib.hid d1; have E2 := Lib.hid d2; have Hb3 := Lib.hid (Hb2.out.trans db); clear d0 d1 d2 db D0 D1 D2
  have D0 := E0; have D1 := E1; have D2 := E2; clear E0 E1 E2
  go_wp2_with fail
  refine (sum1_z A n c w.heap.size l _ _ w3 (Hr.out.below Hb3.out) Hln.out hn (fun a ha => (HI.out a ha).2.2.2.1) D0.out (by simp) D1.out D2.out).mono ?_
  rintro e w4 ⟨rfl, d0, d1, d2, db⟩
  have E0 := Lib.hid d0; have E1 := Lib.hid d1; have E2 := Lib.hid d2; have Hb4 := Lib.hid (Hb3.out.trans db); clear d0 d1 d2 db D0 D1 D2
  have D0 := E0; have D1 := E1; have D2 := E2; clear E0 E1 E2
  go_wp2_with fail
  refine (sum1_variance A n c w.heap.size l _ _ w4 (Hr.out.below Hb4.out) Hln.out hn (fun a ha => (HI.out a ha).2.2.2.2) D0.out (by simp) D1.out D2.out).mono ?_
  rintro e w5 ⟨rfl, d0, d1, d2, db⟩
  have E0 := Lib.hid d0; have E1 := Lib.hid d1; have E2 := Lib.hid d2; have Hb5 := Lib.hid (Hb4.out.trans db); clear d0 d1 d2 db D0 D1 D2
  have D0 := E0; have D1 := E1; have D2 := E2; clear E0 E1 E2
  clear Hb Hb1 Hb2 Hb3 Hb4 D1 Hr HI Hln
  have c0 := D0.out.cell 0; have c1 := D0.out.cell 1; have c2 := D0.out.cell 2; have c3 := D0.out.cell 3; have c4 := D0.out.cell 4; have cb := D2.out.cell 0
  simp at c0 c1 c2 c3 c4
  have f0 := D0.out.frozen 0; have f1 := D0.out.frozen 1; have f2 := D0.out.frozen 2; have f3 := D0.out.frozen 3; have f4 := D0.out.frozen 4
  have hlt : w.heap.size < w5.heap.size := D0.out.lt
  have D5 : Hid (Blk w5 w.heap.size 23 #[.int .i64 (sumV (l.map Wt.m).sum), .int .i64 (sumV (l.map Wt.x).sum), .int .i64 (sumV (l.map Wt.y).sum), .int .i64 (sumV (l.map Wt.z).sum), .int .i64 (sumV (l.map Wt.v).sum)]) := D0.out
  clear D0
  have HO := Lib.hid (sum_all (l.map Wt.m).sum (l.map Wt.x).sum (l.map Wt.y).sum (l.map Wt.z).sum (l.map Wt.v).sum)
  have HN := Lib.hid (sum_not (l.map Wt.m).sum (l.map Wt.x).sum (l.map Wt.y).sum (l.map Wt.z).sum (l.map Wt.v).sum)
  cases hok : (sumWt l).okB
  · have HR : Hid ((sumR l).val = zeroW.val ∧ sumX l = 21) := by unfold Hid sumR sumX; rw [hok]; exact ⟨rfl, rfl⟩
    have hd := HN.out hok
    clear hok HO HN
    generalize (((((true && (sumE (l.map Wt.m).sum == 0)) && (sumE (l.map Wt.x).sum == 0)) && (sumE (l.map Wt.y).sum == 0)) && (sumE (l.map Wt.z).sum == 0)) && (sumE (l.map Wt.v).sum == 0)) = K at *
    generalize sumV (l.map Wt.m).sum = V0 at *
    generalize sumV (l.map Wt.x).sum = V1 at *
    generalize sumV (l.map Wt.y).sum = V2 at *
    generalize sumV (l.map Wt.z).sum = V3 at *
    generalize sumV (l.map Wt.v).sum = V4 at *
    simp at cb
    cases K
    · clear hd
      go_wp2_with fail
      refine bodyPost_ret (results_cell_tmp rfl _ _ w.heap.size 23 #[.int .i64 0, .int .i64 0, .int .i64 0, .int .i64 0, .int .i64 0] _ rfl (by with_reducible exact blk_set5 D5.out _ _ _ _ _) Tryd.underlying23 rfl (by kernel_rfl)) rfl ⟨by rw [HR.out.1, HR.out.2]; rfl, ?_⟩
      have Hb := Hb5.out
      go_grown
    · have hd' : chkE V0 V1 V2 V3 V4 = 9 := by simpa using hd
      clear hd
      go_wp2_with (go_at_call 13; refine (check_at _ _ _ _ _ _).mono ?_; rintro e w' ⟨rfl, rfl⟩)
      refine bodyPost_ret (results_cell_tmp rfl _ _ w.heap.size 23 #[.int .i64 0, .int .i64 0, .int .i64 0, .int .i64 0, .int .i64 0] _ rfl (by with_reducible exact (blk_set5 D5.out _ _ _ _ _).alloc _) Tryd.underlying23 rfl (by kernel_rfl)) rfl ⟨by rw [HR.out.1, HR.out.2]; rfl, ?_⟩
      have Hb := Hb5.out
      have Hz := Hb.size
      go_grown
  · have HR : Hid ((sumR l).val = (sumWt l).val ∧ sumX l = 0) := by unfold Hid sumR sumX; rw [hok]; exact ⟨rfl, rfl⟩
    obtain ⟨k, e0, e1, e2, e3, e4⟩ := HO.out hok
    rw [k] at cb
    rw [e0] at c0; rw [e1] at c1; rw [e2] at c2; rw [e3] at c3; rw [e4] at c4
    have hd' : chkE (l.map Wt.m).sum (l.map Wt.x).sum (l.map Wt.y).sum (l.map Wt.z).sum (l.map Wt.v).sum = 0 := by unfold chkE; exact if_pos hok
    clear hok HO HN k e0 e1 e2 e3 e4 D2
    have HV : Hid ((sumWt l).val = .agg #[.int .i64 (l.map Wt.m).sum, .int .i64 (l.map Wt.x).sum, .int .i64 (l.map Wt.y).sum, .int .i64 (l.map Wt.z).sum, .int .i64 (l.map Wt.v).sum]) := rfl
    generalize (l.map Wt.m).sum = V0 at *
    generalize (l.map Wt.x).sum = V1 at *
    generalize (l.map Wt.y).sum = V2 at *
    generalize (l.map Wt.z).sum = V3 at *
    generalize (l.map Wt.v).sum = V4 at *
    simp at cb
    go_wp2_with (go_at_call 13; refine (check_at _ _ _ _ _ _).mono ?_; rintro e w' ⟨rfl, rfl⟩)
    refine bodyPost_ret (results_cell_tmp rfl _ _ w.heap.size 23 #[.int .i64 V0, .int .i64 V1, .int .i64 V2, .int .i64 V3, .int .i64 V4] _ rfl (by with_reducible exact (blk_set5 D5.out _ _ _ _ _).alloc _) Tryd.underlying23 rfl (by kernel_rfl)) rfl ⟨by rw [HR.out.1, HR.out.2, HV.out]; rfl, ?_⟩
    have Hb := Hb5.out
    have Hz := Hb.size
    go_grown
end Go.Proofs.YtfgeocpooimojaaDoor
