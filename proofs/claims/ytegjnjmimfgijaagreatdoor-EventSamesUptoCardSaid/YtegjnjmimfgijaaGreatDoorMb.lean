/-
  Parts among the arguments, opened. Conditions: as each theorem states them.
-/
import Derived.Test.YtegjnjmimfgijaaGreatDoorMa
import Derived.Test.YtegjnjmimfgijaaGreatDoorLa
import Derived.Test.YtegjnjmimfgijaaGreatDoorChecked
noncomputable section
namespace Go.Proofs.YtegjnjmimfgijaaGreatDoor
open Go Go.RowKit Go.ChangeShapes Go.WideShapes Go.ChangeAt Go.Deep Go.Joins
set_option maxRecDepth 100000
instance : Enc Vec3 where
  sz := 3
  cells p := [.int .i64 p.x, .int .i64 p.y, .int .i64 p.z]
  len _ := rfl
  nl p := by intro v hv; simp at hv; rcases hv with rfl | rfl | rfl <;> rfl
instance : Enc Part where
  sz := 18
  cells := partC
  len _ := rfl
  nl p := by intro v hv; simp [partC] at hv; rcases hv with rfl | rfl | rfl | rfl | rfl | rfl | rfl | rfl | rfl | rfl | rfl | rfl | rfl | rfl | rfl | rfl | rfl | rfl <;> rfl
def InPt (p : Pt) : Prop := In64 p.x ∧ In64 p.y
def InV (p : Vec3) : Prop := In64 p.x ∧ In64 p.y ∧ In64 p.z
structure InPart (p : Part) : Prop where
  rev : In64 p.rev
  kind : In64 p.kind
  thick : In64 p.thick
  outer : ∀ x ∈ p.outer, InPt x
  holes : ∀ l ∈ p.holes, ∀ x ∈ l, InPt x
  long : In64 p.long
  mass : In64 p.mass
  centre : InV p.centre
  at_ : InV p.at_
  turn : In64 p.turn
  id : p.id.size ≤ maxLen
  node : p.node.size ≤ maxLen
  grade : p.grade.size ≤ maxLen
  sect : p.sect.size ≤ maxLen
variable {w : World}
theorem opens_pt : Opens Tryz.prog w 132 Pt InPt := fun H enc base spare held fuel cs x h => by
  obtain ⟨xs, n, _, _, hlen, hxs, hf⟩ := DataW.trod_struct Tryz.underlying132 h
  have hc : Tryz.prog.cellsOf 132 = 2 := by kernel_rfl
  obtain ⟨b0, k0, v0⟩ := field_open (opens_int Tryz.underlying3) (hf 0 _ rfl) (by rw [hxs]; decide)
  obtain ⟨b1, k1, v1⟩ := field_open (opens_int Tryz.underlying3) (hf 1 _ rfl) (by rw [hxs]; decide)
  exact ⟨⟨b0, b1⟩, ⟨k0, k1⟩, v0.next (v1.next (VRC.done (n := 2) (hlen.trans hc)))⟩
theorem opens_vec : Opens Tryz.prog w 36 Vec3 InV := fun H enc base spare held fuel cs x h => by
  obtain ⟨xs, n, _, _, hlen, hxs, hf⟩ := DataW.trod_struct Tryz.underlying36 h
  have hc : Tryz.prog.cellsOf 36 = 3 := by kernel_rfl
  obtain ⟨b0, k0, v0⟩ := field_open (opens_int Tryz.underlying3) (hf 0 _ rfl) (by rw [hxs]; decide)
  obtain ⟨b1, k1, v1⟩ := field_open (opens_int Tryz.underlying3) (hf 1 _ rfl) (by rw [hxs]; decide)
  obtain ⟨b2, k2, v2⟩ := field_open (opens_int Tryz.underlying3) (hf 2 _ rfl) (by rw [hxs]; decide)
  exact ⟨⟨b0, b1, b2⟩, ⟨k0, k1, k2⟩, v0.next (v1.next (v2.next (VRC.done (n := 3) (hlen.trans hc))))⟩
theorem opens_pts : Opens Tryz.prog w 102 (List Pt) fun l => l.length ≤ maxLen ∧ ∀ a ∈ l, InPt a := opens_slice Tryz.underlying102 opens_pt (by kernel_rfl) (by decide)
theorem opens_holes : Opens Tryz.prog w 103 (List (List Pt)) fun l => l.length ≤ maxLen ∧ ∀ a ∈ l, a.length ≤ maxLen ∧ ∀ b ∈ a, InPt b := opens_slice Tryz.underlying103 opens_pts (by kernel_rfl) (by decide)
theorem opens_shape : Opens Tryz.prog w 105 (List Pt × List (List Pt)) fun p => (p.1.length ≤ maxLen ∧ ∀ a ∈ p.1, InPt a) ∧ p.2.length ≤ maxLen ∧ ∀ a ∈ p.2, a.length ≤ maxLen ∧ ∀ b ∈ a, InPt b := fun H enc base spare held fuel cs x h => by
  obtain ⟨xs, n, _, _, hlen, hxs, hf⟩ := DataW.trod_struct Tryz.underlying105 h
  have hc : Tryz.prog.cellsOf 105 = 2 := by kernel_rfl
  obtain ⟨b0, k0, v0⟩ := field_open opens_pts (hf 0 _ rfl) (by rw [hxs]; decide)
  obtain ⟨b1, k1, v1⟩ := field_open opens_holes (hf 1 _ rfl) (by rw [hxs]; decide)
  exact ⟨⟨b0, b1⟩, ⟨k0, k1⟩, v0.next (v1.next (VRC.done (n := 2) (hlen.trans hc)))⟩
theorem opens_place : Opens Tryz.prog w 107 (Vec3 × Int) fun p => InV p.1 ∧ In64 p.2 := fun H enc base spare held fuel cs x h => by
  obtain ⟨xs, n, _, _, hlen, hxs, hf⟩ := DataW.trod_struct Tryz.underlying107 h
  have hc : Tryz.prog.cellsOf 107 = 4 := by kernel_rfl
  obtain ⟨b0, k0, v0⟩ := field_open opens_vec (hf 0 _ rfl) (by rw [hxs]; decide)
  obtain ⟨b1, k1, v1⟩ := field_open (opens_int Tryz.underlying3) (hf 1 _ rfl) (by rw [hxs]; decide)
  exact ⟨⟨b0, b1⟩, ⟨k0, k1⟩, v0.next (v1.next (VRC.done (n := 4) (hlen.trans hc)))⟩
theorem opens_part : Opens Tryz.prog w 109 Part InPart := fun H enc base spare held fuel cs x h => by
  obtain ⟨xs, n, _, _, hlen, hxs, hf⟩ := DataW.trod_struct Tryz.underlying109 h
  have hc : Tryz.prog.cellsOf 109 = 18 := by kernel_rfl
  obtain ⟨b0, k0, v0⟩ := field_open (opens_string Tryz.underlying9) (hf 0 _ rfl) (by rw [hxs]; decide)
  obtain ⟨b1, k1, v1⟩ := field_open (opens_int Tryz.underlying3) (hf 1 _ rfl) (by rw [hxs]; decide)
  obtain ⟨b2, k2, v2⟩ := field_open (opens_int Tryz.underlying3) (hf 2 _ rfl) (by rw [hxs]; decide)
  obtain ⟨b3, k3, v3⟩ := field_open (opens_string Tryz.underlying9) (hf 3 _ rfl) (by rw [hxs]; decide)
  obtain ⟨b4, k4, v4⟩ := field_open (opens_string Tryz.underlying9) (hf 4 _ rfl) (by rw [hxs]; decide)
  obtain ⟨b5, k5, v5⟩ := field_open (opens_int Tryz.underlying3) (hf 5 _ rfl) (by rw [hxs]; decide)
  obtain ⟨b6, k6, v6⟩ := field_open opens_shape (hf 6 _ rfl) (by rw [hxs]; decide)
  obtain ⟨b7, k7, v7⟩ := field_open (opens_string Tryz.underlying9) (hf 7 _ rfl) (by rw [hxs]; decide)
  obtain ⟨b8, k8, v8⟩ := field_open (opens_int Tryz.underlying3) (hf 8 _ rfl) (by rw [hxs]; decide)
  obtain ⟨b9, k9, v9⟩ := field_open (opens_int Tryz.underlying3) (hf 9 _ rfl) (by rw [hxs]; decide)
  obtain ⟨b10, k10, v10⟩ := field_open opens_vec (hf 10 _ rfl) (by rw [hxs]; decide)
  obtain ⟨b11, k11, v11⟩ := field_open opens_place (hf 11 _ rfl) (by rw [hxs]; decide)
  refine ⟨⟨b0, b1, b2, b3, b4, b5, b6.1, b6.2, b7, b8, b9, b10, b11.1, b11.2⟩, ⟨k1, k2, k5, k6.1.2, fun l hl => (k6.2.2 l hl).2, k8, k9, k10, k11.1, k11.2, k0, k3, k4, k7⟩, ?_⟩
  exact v0.next (v1.next (v2.next (v3.next (v4.next (v5.next (v6.next (v7.next (v8.next (v9.next (v10.next (v11.next (VRC.done (n := 18) (hlen.trans hc)))))))))))))
end Go.Proofs.YtegjnjmimfgijaaGreatDoor
