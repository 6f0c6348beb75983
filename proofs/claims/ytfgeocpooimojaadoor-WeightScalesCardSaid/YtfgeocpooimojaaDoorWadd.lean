/-
  What the sum of a list of weights, and Sum and Add of package weight, return. Conditions: as each theorem states them.
-/
import Derived.Test.YtfgeocpooimojaaDoorWtot
namespace Go.Proofs.YtfgeocpooimojaaDoor
open Go Go.RowKit

set_option maxHeartbeats 1000000 in
theorem sum1_mass (A : Option Addr) (n c g : Nat) (l : List Wt) (b : Bool) (cs : Array Value) (w : World) (hr : Reads w g 5 A n (wtCells l)) (hln : l.length = n) (hn : n ≤ 1000000) (hI : ∀ a ∈ l, I64 a.m)
    (h0 : Blk w g 23 cs) (hcs : cs.size = 5) (h1 : Blk w (g + 1) 3 #[.int .i64 n]) (h2 : Blk w (g + 2) 4 #[.bool b]) :
    Calls Tryd.prog 51 #[.pointer (some ⟨g, 0, none⟩), .func (.func 53) #[.slice A n c] #[], .pointer (some ⟨g + 1, 0, none⟩), .pointer (some ⟨g + 2, 0, none⟩)] w fun e w' =>
      e = .returned (.tuple #[]) ∧ Blk w' g 23 (cs.setIfInBounds 0 (.int .i64 (sumV (l.map Wt.m).sum))) ∧ Blk w' (g + 1) 3 #[.int .i64 n] ∧ Blk w' (g + 2) 4 #[.bool (b && (sumE (l.map Wt.m).sum == 0))] ∧ Below g w w' := by
  have HT := Lib.hid (total_mass A n c l w (hr.more (Nat.le_of_lt h0.lt)) hln hn hI)
  have H0 := Lib.hid h0; have H1 := Lib.hid h1; have H2 := Lib.hid h2; have Hcs := Lib.hid hcs
  clear hr hln hI h0 h1 h2 hcs
  have c1 : w.cell? ⟨g + 1, 0, none⟩ = some (.int .i64 n) := H1.out.cell 0
  generalize sumV (l.map Wt.m).sum = V at *
  generalize (sumE (l.map Wt.m).sum == 0) = K at *
  go_enter Tryd.func51, Tryd.ntmps51
  go_wp2_with (go_at_call 52; refine HT.out.mono ?_; rintro e w1 ⟨rfl, hb⟩; have Hb := Lib.hid hb; have B0 := Lib.hid (H0.out.below hb H0.out.lt); have B1 := Lib.hid (H1.out.below hb H1.out.lt); have B2 := Lib.hid (H2.out.below hb H2.out.lt); obtain ⟨v0, k0⟩ : ∃ v0, w1.cell? ⟨g, 0, none⟩ = some v0 := ⟨_, (B0.out.cell 0).trans (Array.getElem?_eq_getElem (by rw [Hcs.out]; omega))⟩; have f0 := B0.out.frozen 0; have k2 : w1.cell? ⟨g + 2, 0, none⟩ = some (.bool b) := B2.out.cell 0; have f2 := B2.out.frozen 0; clear hb c1)
  all_goals
    go_end0
    refine ⟨rfl, ((B0.out.set_ 0 _).far (by simp) _), ((B1.out.far (by simp) _).far (by simp) _), ?_, ((Hb.out.mono (Nat.le_of_lt H0.out.lt)).setCell (Nat.le_refl _) _).setCell (by simp) _⟩
    have := (B2.out.far (p := ⟨g, 0, none⟩) (by simp) (.int .i64 V)).set_ 0 (.bool (b && K))
    simpa [*] using this

set_option maxHeartbeats 1000000 in
theorem sum1_x (A : Option Addr) (n c g : Nat) (l : List Wt) (b : Bool) (cs : Array Value) (w : World) (hr : Reads w g 5 A n (wtCells l)) (hln : l.length = n) (hn : n ≤ 1000000) (hI : ∀ a ∈ l, I64 a.x)
    (h0 : Blk w g 23 cs) (hcs : cs.size = 5) (h1 : Blk w (g + 1) 3 #[.int .i64 n]) (h2 : Blk w (g + 2) 4 #[.bool b]) :
    Calls Tryd.prog 51 #[.pointer (some ⟨g, 1, none⟩), .func (.func 54) #[.slice A n c] #[], .pointer (some ⟨g + 1, 0, none⟩), .pointer (some ⟨g + 2, 0, none⟩)] w fun e w' =>
      e = .returned (.tuple #[]) ∧ Blk w' g 23 (cs.setIfInBounds 1 (.int .i64 (sumV (l.map Wt.x).sum))) ∧ Blk w' (g + 1) 3 #[.int .i64 n] ∧ Blk w' (g + 2) 4 #[.bool (b && (sumE (l.map Wt.x).sum == 0))] ∧ Below g w w' := by
  have HT := Lib.hid (total_x A n c l w (hr.more (Nat.le_of_lt h0.lt)) hln hn hI)
  have H0 := Lib.hid h0; have H1 := Lib.hid h1; have H2 := Lib.hid h2; have Hcs := Lib.hid hcs
  clear hr hln hI h0 h1 h2 hcs
  have c1 : w.cell? ⟨g + 1, 0, none⟩ = some (.int .i64 n) := H1.out.cell 0
  generalize sumV (l.map Wt.x).sum = V at *
  generalize (sumE (l.map Wt.x).sum == 0) = K at *
  go_enter Tryd.func51, Tryd.ntmps51
  go_wp2_with (go_at_call 52; refine HT.out.mono ?_; rintro e w1 ⟨rfl, hb⟩; have Hb := Lib.hid hb; have B0 := Lib.hid (H0.out.below hb H0.out.lt); have B1 := Lib.hid (H1.out.below hb H1.out.lt); have B2 := Lib.hid (H2.out.below hb H2.out.lt); obtain ⟨v0, k0⟩ : ∃ v0, w1.cell? ⟨g, 1, none⟩ = some v0 := ⟨_, (B0.out.cell 1).trans (Array.getElem?_eq_getElem (by rw [Hcs.out]; omega))⟩; have f0 := B0.out.frozen 1; have k2 : w1.cell? ⟨g + 2, 0, none⟩ = some (.bool b) := B2.out.cell 0; have f2 := B2.out.frozen 0; clear hb c1)
  all_goals
    go_end0
    refine ⟨rfl, ((B0.out.set_ 1 _).far (by simp) _), ((B1.out.far (by simp) _).far (by simp) _), ?_, ((Hb.out.mono (Nat.le_of_lt H0.out.lt)).setCell (Nat.le_refl _) _).setCell (by simp) _⟩
    have := (B2.out.far (p := ⟨g, 1, none⟩) (by simp) (.int .i64 V)).set_ 0 (.bool (b && K))
    simpa [*] using this

set_option maxHeartbeats 1000000 in
theorem sum1_y (A : Option Addr) (n c g : Nat) (l : List Wt) (b : Bool) (cs : Array Value) (w : World) (hr : Reads w g 5 A n (wtCells l)) (hln : l.length = n) (hn : n ≤ 1000000) (hI : ∀ a ∈ l, I64 a.y)
    (h0 : Blk w g 23 cs) (hcs : cs.size = 5) (h1 : Blk w (g + 1) 3 #[.int .i64 n]) (h2 : Blk w (g + 2) 4 #[.bool b]) :
    Calls Tryd.prog 51 #[.pointer (some ⟨g, 2, none⟩), .func (.func 55) #[.slice A n c] #[], .pointer (some ⟨g + 1, 0, none⟩), .pointer (some ⟨g + 2, 0, none⟩)] w fun e w' =>
      e = .returned (.tuple #[]) ∧ Blk w' g 23 (cs.setIfInBounds 2 (.int .i64 (sumV (l.map Wt.y).sum))) ∧ Blk w' (g + 1) 3 #[.int .i64 n] ∧ Blk w' (g + 2) 4 #[.bool (b && (sumE (l.map Wt.y).sum == 0))] ∧ Below g w w' := by
  have HT := Lib.hid (total_y A n c l w (hr.more (Nat.le_of_lt h0.lt)) hln hn hI)
  have H0 := Lib.hid h0; have H1 := Lib.hid h1; have H2 := Lib.hid h2; have Hcs := Lib.hid hcs
  clear hr hln hI h0 h1 h2 hcs
  have c1 : w.cell? ⟨g + 1, 0, none⟩ = some (.int .i64 n) := H1.out.cell 0
  generalize sumV (l.map Wt.y).sum = V at *
  generalize (sumE (l.map Wt.y).sum == 0) = K at *
  go_enter Tryd.func51, Tryd.ntmps51
  go_wp2_with (go_at_call 52; refine HT.out.mono ?_; rintro e w1 ⟨rfl, hb⟩; have Hb := Lib.hid hb; have B0 := Lib.hid (H0.out.below hb H0.out.lt); have B1 := Lib.hid (H1.out.below hb H1.out.lt); have B2 := Lib.hid (H2.out.below hb H2.out.lt); obtain ⟨v0, k0⟩ : ∃ v0, w1.cell? ⟨g, 2, none⟩ = some v0 := ⟨_, (B0.out.cell 2).trans (Array.getElem?_eq_getElem (by rw [Hcs.out]; omega))⟩; have f0 := B0.out.frozen 2; have k2 : w1.cell? ⟨g + 2, 0, none⟩ = some (.bool b) := B2.out.cell 0; have f2 := B2.out.frozen 0; clear hb c1)
  all_goals
    go_end0
    refine ⟨rfl, ((B0.out.set_ 2 _).far (by simp) _), ((B1.out.far (by simp) _).far (by simp) _), ?_, ((Hb.out.mono (Nat.le_of_lt H0.out.lt)).setCell (Nat.le_refl _) _).setCell (by simp) _⟩
    have := (B2.out.far (p := ⟨g, 2, none⟩) (by simp) (.int .i64 V)).set_ 0 (.bool (b && K))
    simpa [*] using this

set_option maxHeartbeats 1000000 in
theorem sum1_z (A : Option Addr) (n c g : Nat) (l : List Wt) (b : Bool) (cs : Array Value) (w : World) (hr : Reads w g 5 A n (wtCells l)) (hln : l.length = n) (hn : n ≤ 1000000) (hI : ∀ a ∈ l, I64 a.z)
    (h0 : Blk w g 23 cs) (hcs : cs.size = 5) (h1 : Blk w (g + 1) 3 #[.int .i64 n]) (h2 : Blk w (g + 2) 4 #[.bool b]) :
    Calls Tryd.prog 51 #[.pointer (some ⟨g, 3, none⟩), .func (.func 56) #[.slice A n c] #[], .pointer (some ⟨g + 1, 0, none⟩), .pointer (some ⟨g + 2, 0, none⟩)] w fun e w' =>
      e = .returned (.tuple #[]) ∧ Blk w' g 23 (cs.setIfInBounds 3 (.int .i64 (sumV (l.map Wt.z).sum))) ∧ Blk w' (g + 1) 3 #[.int .i64 n] ∧ Blk w' (g + 2) 4 #[.bool (b && (sumE (l.map Wt.z).sum == 0))] ∧ Below g w w' := by
  have HT := Lib.hid (total_z A n c l w (hr.more (Nat.le_of_lt h0.lt)) hln hn hI)
  have H0 := Lib.hid h0; have H1 := Lib.hid h1; have H2 := Lib.hid h2; have Hcs := Lib.hid hcs
  clear hr hln hI h0 h1 h2 hcs
  have c1 : w.cell? ⟨g + 1, 0, none⟩ = some (.int .i64 n) := H1.out.cell 0
  generalize sumV (l.map Wt.z).sum = V at *
  generalize (sumE (l.map Wt.z).sum == 0) = K at *
  go_enter Tryd.func51, Tryd.ntmps51
  go_wp2_with (go_at_call 52; refine HT.out.mono ?_; rintro e w1 ⟨rfl, hb⟩; have Hb := Lib.hid hb; have B0 := Lib.hid (H0.out.below hb H0.out.lt); have B1 := Lib.hid (H1.out.below hb H1.out.lt); have B2 := Lib.hid (H2.out.below hb H2.out.lt); obtain ⟨v0, k0⟩ : ∃ v0, w1.cell? ⟨g, 3, none⟩ = some v0 := ⟨_, (B0.out.cell 3).trans (Array.getElem?_eq_getElem (by rw [Hcs.out]; omega))⟩; have f0 := B0.out.frozen 3; have k2 : w1.cell? ⟨g + 2, 0, none⟩ = some (.bool b) := B2.out.cell 0; have f2 := B2.out.frozen 0; clear hb c1)
  all_goals
    go_end0
    refine ⟨rfl, ((B0.out.set_ 3 _).far (by simp) _), ((B1.out.far (by simp) _).far (by simp) _), ?_, ((Hb.out.mono (Nat.le_of_lt H0.out.lt)).setCell (Nat.le_refl _) _).setCell (by simp) _⟩
    have := (B2.out.far (p := ⟨g, 3, none⟩) (by simp) (.int .i64 V)).set_ 0 (.bool (b && K))
    simpa [*] using this

set_option maxHeartbeats 1000000 in
theorem sum1_variance (A : Option Addr) (n c g : Nat) (l : List Wt) (b : Bool) (cs : Array Value) (w : World) (hr : Reads w g 5 A n (wtCells l)) (hln : l.length = n) (hn : n ≤ 1000000) (hI : ∀ a ∈ l, I64 a.v)
    (h0 : Blk w g 23 cs) (hcs : cs.size = 5) (h1 : Blk w (g + 1) 3 #[.int .i64 n]) (h2 : Blk w (g + 2) 4 #[.bool b]) :
    Calls Tryd.prog 51 #[.pointer (some ⟨g, 4, none⟩), .func (.func 57) #[.slice A n c] #[], .pointer (some ⟨g + 1, 0, none⟩), .pointer (some ⟨g + 2, 0, none⟩)] w fun e w' =>
      e = .returned (.tuple #[]) ∧ Blk w' g 23 (cs.setIfInBounds 4 (.int .i64 (sumV (l.map Wt.v).sum))) ∧ Blk w' (g + 1) 3 #[.int .i64 n] ∧ Blk w' (g + 2) 4 #[.bool (b && (sumE (l.map Wt.v).sum == 0))] ∧ Below g w w' := by
  have HT := Lib.hid (total_variance A n c l w (hr.more (Nat.le_of_lt h0.lt)) hln hn hI)
  have H0 := Lib.hid h0; have H1 := Lib.hid h1; have H2 := Lib.hid h2; have Hcs := Lib.hid hcs
  clear hr hln hI h0 h1 h2 hcs
  have c1 : w.cell? ⟨g + 1, 0, none⟩ = some (.int .i64 n) := H1.out.cell 0
  generalize sumV (l.map Wt.v).sum = V at *
  generalize (sumE (l.map Wt.v).sum == 0) = K at *
  go_enter Tryd.func51, Tryd.ntmps51
  go_wp2_with (go_at_call 52; refine HT.out.mono ?_; rintro e w1 ⟨rfl, hb⟩; have Hb := Lib.hid hb; have B0 := Lib.hid (H0.out.below hb H0.out.lt); have B1 := Lib.hid (H1.out.below hb H1.out.lt); have B2 := Lib.hid (H2.out.below hb H2.out.lt); obtain ⟨v0, k0⟩ : ∃ v0, w1.cell? ⟨g, 4, none⟩ = some v0 := ⟨_, (B0.out.cell 4).trans (Array.getElem?_eq_getElem (by rw [Hcs.out]; omega))⟩; have f0 := B0.out.frozen 4; have k2 : w1.cell? ⟨g + 2, 0, none⟩ = some (.bool b) := B2.out.cell 0; have f2 := B2.out.frozen 0; clear hb c1)
  all_goals
    go_end0
    refine ⟨rfl, ((B0.out.set_ 4 _).far (by simp) _), ((B1.out.far (by simp) _).far (by simp) _), ?_, ((Hb.out.mono (Nat.le_of_lt H0.out.lt)).setCell (Nat.le_refl _) _).setCell (by simp) _⟩
    have := (B2.out.far (p := ⟨g, 4, none⟩) (by simp) (.int .i64 V)).set_ 0 (.bool (b && K))
    simpa [*] using this
end Go.Proofs.YtfgeocpooimojaaDoor
