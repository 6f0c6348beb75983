/-
  Put together out of several texts, each in its own namespace's block. Conditions: as each theorem states them.
-/
import Derived.Test.YtegjnjmimfgijaaGreatDoorQPk
import Derived.Test.YtegjnjmimfgijaaGreatDoorQOc
import Derived.Test.YtegjnjmimfgijaaGreatDoorQSj
import Derived.Test.YtegjnjmimfgijaaGreatDoorQBldB
import Derived.Laws.RangeAny
noncomputable section
namespace Go.Proofs.YtegjnjmimfgijaaGreatDoor
open Go Go.RowKit Go.ChangeShapes Go.WideShapes Go.ChangeAt Go.Deep Go.Joins
set_option maxRecDepth 100000
instance : Vol Pt := ⟨fun p => 1 + (Vol.vol p.x + (Vol.vol p.y + (0))), fun _ => Nat.le_add_right _ _⟩
def okPt (p : Pt) : Prop := In64 p.x ∧ In64 p.y
theorem opensB_Pt {w : World} : OpensB Tryz.prog w 132 Pt okPt := fun H enc base spare held fuel cs x h => by
 obtain ⟨xs, n, _, rfl, hlen, hxs, hf⟩ := DataW.trod_struct Tryz.underlying132 h
 have hc : Tryz.prog.cellsOf 132 = 2 := by kernel_rfl
 obtain ⟨b0, k0, u0, v0⟩ := fieldB (opensB_int Tryz.underlying3) (hf 0 _ rfl) (by rw [hxs]; decide)
 obtain ⟨b1, k1, u1, v1⟩ := fieldB (opensB_int Tryz.underlying3) (hf 1 _ rfl) (by rw [hxs]; decide)
 have hb := BK.agg (u0.next (u1.next (BK.done)))
 refine ⟨⟨b0, b1⟩, ⟨k0, k1⟩, hb, v0.next (v1.next (VRC.done (n := 2) (hlen.trans hc)))⟩
theorem opensB_Pts {w : World} : OpensB Tryz.prog w 102 (List Pt) fun l => l.length ≤ maxLen ∧ ∀ a ∈ l, okPt a := opensB_slice Tryz.underlying102 opensB_Pt (by kernel_rfl) (by decide)
instance : Vol Vec3 := ⟨fun p => 1 + (Vol.vol p.x + (Vol.vol p.y + (Vol.vol p.z + (0)))), fun _ => Nat.le_add_right _ _⟩
def okVec3 (p : Vec3) : Prop := In64 p.x ∧ In64 p.y ∧ In64 p.z
theorem opensB_Vec3 {w : World} : OpensB Tryz.prog w 36 Vec3 okVec3 := fun H enc base spare held fuel cs x h => by
 obtain ⟨xs, n, _, rfl, hlen, hxs, hf⟩ := DataW.trod_struct Tryz.underlying36 h
 have hc : Tryz.prog.cellsOf 36 = 3 := by kernel_rfl
 obtain ⟨b0, k0, u0, v0⟩ := fieldB (opensB_int Tryz.underlying3) (hf 0 _ rfl) (by rw [hxs]; decide)
 obtain ⟨b1, k1, u1, v1⟩ := fieldB (opensB_int Tryz.underlying3) (hf 1 _ rfl) (by rw [hxs]; decide)
 obtain ⟨b2, k2, u2, v2⟩ := fieldB (opensB_int Tryz.underlying3) (hf 2 _ rfl) (by rw [hxs]; decide)
 have hb := BK.agg (u0.next (u1.next (u2.next (BK.done))))
 refine ⟨⟨b0, b1, b2⟩, ⟨k0, k1, k2⟩, hb, v0.next (v1.next (v2.next (VRC.done (n := 3) (hlen.trans hc))))⟩
theorem opensB_shape {w : World} : OpensB Tryz.prog w 105 (List Pt × List (List Pt)) fun p => (p.1.length ≤ maxLen ∧ ∀ a ∈ p.1, okPt a) ∧ (p.2.length ≤ maxLen ∧ ∀ l ∈ p.2, l.length ≤ maxLen ∧ ∀ a ∈ l, okPt a) := fun H enc base spare held fuel cs x h => by
 obtain ⟨xs, n, _, rfl, hlen, hxs, hf⟩ := DataW.trod_struct Tryz.underlying105 h
 have hc : Tryz.prog.cellsOf 105 = 2 := by kernel_rfl
 obtain ⟨b0, k0, u0, v0⟩ := fieldB opensB_Pts (hf 0 _ rfl) (by rw [hxs]; decide)
 obtain ⟨b1, k1, u1, v1⟩ := fieldB (opensB_slice Tryz.underlying103 opensB_Pts (by kernel_rfl) (by decide)) (hf 1 _ rfl) (by rw [hxs]; decide)
 have hb := BK.agg (u0.next (u1.next BK.done))
 exact ⟨⟨b0, b1⟩, ⟨k0, k1⟩, hb, v0.next (v1.next (VRC.done (n := 2) (hlen.trans hc)))⟩
theorem opensB_place {w : World} : OpensB Tryz.prog w 107 (Vec3 × Int) fun p => okVec3 p.1 ∧ In64 p.2 := fun H enc base spare held fuel cs x h => by
 obtain ⟨xs, n, _, rfl, hlen, hxs, hf⟩ := DataW.trod_struct Tryz.underlying107 h
 have hc : Tryz.prog.cellsOf 107 = 4 := by kernel_rfl
 obtain ⟨b0, k0, u0, v0⟩ := fieldB opensB_Vec3 (hf 0 _ rfl) (by rw [hxs]; decide)
 obtain ⟨b1, k1, u1, v1⟩ := fieldB (opensB_int Tryz.underlying3) (hf 1 _ rfl) (by rw [hxs]; decide)
 have hb := BK.agg (u0.next (u1.next BK.done))
 exact ⟨⟨b0, b1⟩, ⟨k0, k1⟩, hb, v0.next (v1.next (VRC.done (n := 4) (hlen.trans hc)))⟩
instance : Vol Part := ⟨fun p => 1 + (Vol.vol p.id + (Vol.vol p.rev + (Vol.vol p.kind + (Vol.vol p.node + (Vol.vol p.grade + (Vol.vol p.thick + (Vol.vol p.outer + (Vol.vol p.holes + (Vol.vol p.sect + (Vol.vol p.long + (Vol.vol p.mass + (Vol.vol p.centre + (Vol.vol p.at_ + (Vol.vol p.turn + (0))))))))))))))), fun _ => Nat.le_add_right _ _⟩
abbrev okPart (p : Part) : Prop := InPart p
set_option maxHeartbeats 2000000 in
theorem opensB_Part {w : World} : OpensB Tryz.prog w 109 Part okPart := fun H enc base spare held fuel cs x h => by
 obtain ⟨xs, n, _, rfl, hlen, hxs, hf⟩ := DataW.trod_struct Tryz.underlying109 h
 have hc : Tryz.prog.cellsOf 109 = 18 := by kernel_rfl
 obtain ⟨b0, k0, u0, v0⟩ := fieldB (opensB_string Tryz.underlying9) (hf 0 _ rfl) (by rw [hxs]; decide)
 obtain ⟨b1, k1, u1, v1⟩ := fieldB (opensB_int Tryz.underlying3) (hf 1 _ rfl) (by rw [hxs]; decide)
 obtain ⟨b2, k2, u2, v2⟩ := fieldB (opensB_int Tryz.underlying3) (hf 2 _ rfl) (by rw [hxs]; decide)
 obtain ⟨b3, k3, u3, v3⟩ := fieldB (opensB_string Tryz.underlying9) (hf 3 _ rfl) (by rw [hxs]; decide)
 obtain ⟨b4, k4, u4, v4⟩ := fieldB (opensB_string Tryz.underlying9) (hf 4 _ rfl) (by rw [hxs]; decide)
 obtain ⟨b5, k5, u5, v5⟩ := fieldB (opensB_int Tryz.underlying3) (hf 5 _ rfl) (by rw [hxs]; decide)
 obtain ⟨b6, k6, u6, v6⟩ := fieldB opensB_shape (hf 6 _ rfl) (by rw [hxs]; decide)
 obtain ⟨b7, k7, u7, v7⟩ := fieldB (opensB_string Tryz.underlying9) (hf 7 _ rfl) (by rw [hxs]; decide)
 obtain ⟨b8, k8, u8, v8⟩ := fieldB (opensB_int Tryz.underlying3) (hf 8 _ rfl) (by rw [hxs]; decide)
 obtain ⟨b9, k9, u9, v9⟩ := fieldB (opensB_int Tryz.underlying3) (hf 9 _ rfl) (by rw [hxs]; decide)
 obtain ⟨b10, k10, u10, v10⟩ := fieldB opensB_Vec3 (hf 10 _ rfl) (by rw [hxs]; decide)
 obtain ⟨b11, k11, u11, v11⟩ := fieldB opensB_place (hf 11 _ rfl) (by rw [hxs]; decide)
 have hb := BK.agg (u0.next (u1.next (u2.next (u3.next (u4.next (u5.next (u6.next (u7.next (u8.next (u9.next (u10.next (u11.next (BK.done)))))))))))))
 refine ⟨⟨b0, b1, b2, b3, b4, b5, b6.1, b6.2, b7, b8, b9, b10, b11.1, b11.2⟩, ⟨k1, k2, k5, k6.1.2, fun l hl => (k6.2.2 l hl).2, k8, k9, k10, k11.1, k11.2, k0, k3, k4, k7⟩, ?_, ?_⟩
 ·refine Nat.le_trans ?_ hb
  clear hb u0 u1 u2 u3 u4 u5 u6 u7 u8 u9 u10 u11 v0 v1 v2 v3 v4 v5 v6 v7 v8 v9 v10 v11
  have e6 : Vol.vol b6 = 1 + (Vol.vol b6.1 + (Vol.vol b6.2 + 0)) := rfl
  have e11 : Vol.vol b11 = 1 + (Vol.vol b11.1 + (Vol.vol b11.2 + 0)) := rfl
  show 1 + (Vol.vol b0 + (Vol.vol b1 + (Vol.vol b2 + (Vol.vol b3 + (Vol.vol b4 + (Vol.vol b5 + (Vol.vol b6.1 + (Vol.vol b6.2 + (Vol.vol b7 + (Vol.vol b8 + (Vol.vol b9 + (Vol.vol b10 + (Vol.vol b11.1 + (Vol.vol b11.2 + (0))))))))))))))) ≤ _
  rw [e6, e11]
  clear e6 e11
  generalize Vol.vol b0 = a0
  generalize Vol.vol b1 = a1
  generalize Vol.vol b2 = a2
  generalize Vol.vol b3 = a3
  generalize Vol.vol b4 = a4
  generalize Vol.vol b5 = a5
  generalize Vol.vol b6.1 = a6
  generalize Vol.vol b6.2 = a7
  generalize Vol.vol b7 = a8
  generalize Vol.vol b8 = a9
  generalize Vol.vol b9 = a10
  generalize Vol.vol b10 = a11
  generalize Vol.vol b11.1 = a12
  generalize Vol.vol b11.2 = a13
  omega
 ·exact v0.next (v1.next (v2.next (v3.next (v4.next (v5.next (v6.next (v7.next (v8.next (v9.next (v10.next (v11.next (VRC.done (n := 18) (hlen.trans hc)))))))))))))
instance : Vol Node3 := ⟨fun p => 1 + (Vol.vol p.id + (Vol.vol p.kind + (Vol.vol p.parent + (0)))), fun _ => Nat.le_add_right _ _⟩
def okNode3 (p : Node3) : Prop := p.id.size ≤ maxLen ∧ In64 p.kind ∧ p.parent.size ≤ maxLen
theorem opensB_Node3 {w : World} : OpensB Tryz.prog w 101 Node3 okNode3 := fun H enc base spare held fuel cs x h => by
 obtain ⟨xs, n, _, rfl, hlen, hxs, hf⟩ := DataW.trod_struct Tryz.underlying101 h
 have hc : Tryz.prog.cellsOf 101 = 3 := by kernel_rfl
 obtain ⟨b0, k0, u0, v0⟩ := fieldB (opensB_string Tryz.underlying9) (hf 0 _ rfl) (by rw [hxs]; decide)
 obtain ⟨b1, k1, u1, v1⟩ := fieldB (opensB_int Tryz.underlying3) (hf 1 _ rfl) (by rw [hxs]; decide)
 obtain ⟨b2, k2, u2, v2⟩ := fieldB (opensB_string Tryz.underlying9) (hf 2 _ rfl) (by rw [hxs]; decide)
 have hb := BK.agg (u0.next (u1.next (u2.next (BK.done))))
 refine ⟨⟨b0, b1, b2⟩, ⟨k0, k1, k2⟩, hb, v0.next (v1.next (v2.next (VRC.done (n := 3) (hlen.trans hc))))⟩
instance : Vol Seam6 := ⟨fun p => 1 + (Vol.vol p.id + (Vol.vol p.a + (Vol.vol p.b + (Vol.vol p.kind + (Vol.vol p.long + (Vol.vol p.cls + (0))))))), fun _ => Nat.le_add_right _ _⟩
def okSeam6 (p : Seam6) : Prop := p.id.size ≤ maxLen ∧ p.a.size ≤ maxLen ∧ p.b.size ≤ maxLen ∧ In64 p.kind ∧ In64 p.long ∧ In64 p.cls
theorem opensB_Seam6 {w : World} : OpensB Tryz.prog w 111 Seam6 okSeam6 := fun H enc base spare held fuel cs x h => by
 obtain ⟨xs, n, _, rfl, hlen, hxs, hf⟩ := DataW.trod_struct Tryz.underlying111 h
 have hc : Tryz.prog.cellsOf 111 = 6 := by kernel_rfl
 obtain ⟨b0, k0, u0, v0⟩ := fieldB (opensB_string Tryz.underlying9) (hf 0 _ rfl) (by rw [hxs]; decide)
 obtain ⟨b1, k1, u1, v1⟩ := fieldB (opensB_string Tryz.underlying9) (hf 1 _ rfl) (by rw [hxs]; decide)
 obtain ⟨b2, k2, u2, v2⟩ := fieldB (opensB_string Tryz.underlying9) (hf 2 _ rfl) (by rw [hxs]; decide)
 obtain ⟨b3, k3, u3, v3⟩ := fieldB (opensB_int Tryz.underlying3) (hf 3 _ rfl) (by rw [hxs]; decide)
 obtain ⟨b4, k4, u4, v4⟩ := fieldB (opensB_int Tryz.underlying3) (hf 4 _ rfl) (by rw [hxs]; decide)
 obtain ⟨b5, k5, u5, v5⟩ := fieldB (opensB_int Tryz.underlying3) (hf 5 _ rfl) (by rw [hxs]; decide)
 have hb := BK.agg (u0.next (u1.next (u2.next (u3.next (u4.next (u5.next (BK.done)))))))
 refine ⟨⟨b0, b1, b2, b3, b4, b5⟩, ⟨k0, k1, k2, k3, k4, k5⟩, hb, v0.next (v1.next (v2.next (v3.next (v4.next (v5.next (VRC.done (n := 6) (hlen.trans hc)))))))⟩
instance : Vol Pack5 := ⟨fun p => 1 + (Vol.vol p.id + (Vol.vol p.block + (Vol.vol p.parts + (Vol.vol p.hours + (Vol.vol p.after + (0)))))), fun _ => Nat.le_add_right _ _⟩
def okPack5 (p : Pack5) : Prop := p.id.size ≤ maxLen ∧ p.block.size ≤ maxLen ∧ (p.parts.length ≤ maxLen ∧ ∀ a ∈ p.parts, a.size ≤ maxLen) ∧ In64 p.hours ∧ (p.after.length ≤ maxLen ∧ ∀ a ∈ p.after, a.size ≤ maxLen)
theorem opensB_Pack5 {w : World} : OpensB Tryz.prog w 113 Pack5 okPack5 := fun H enc base spare held fuel cs x h => by
 obtain ⟨xs, n, _, rfl, hlen, hxs, hf⟩ := DataW.trod_struct Tryz.underlying113 h
 have hc : Tryz.prog.cellsOf 113 = 5 := by kernel_rfl
 obtain ⟨b0, k0, u0, v0⟩ := fieldB (opensB_string Tryz.underlying9) (hf 0 _ rfl) (by rw [hxs]; decide)
 obtain ⟨b1, k1, u1, v1⟩ := fieldB (opensB_string Tryz.underlying9) (hf 1 _ rfl) (by rw [hxs]; decide)
 obtain ⟨b2, k2, u2, v2⟩ := fieldB (opensB_slice Tryz.underlying32 (opensB_string Tryz.underlying9) (by kernel_rfl) (by decide)) (hf 2 _ rfl) (by rw [hxs]; decide)
 obtain ⟨b3, k3, u3, v3⟩ := fieldB (opensB_int Tryz.underlying3) (hf 3 _ rfl) (by rw [hxs]; decide)
 obtain ⟨b4, k4, u4, v4⟩ := fieldB (opensB_slice Tryz.underlying32 (opensB_string Tryz.underlying9) (by kernel_rfl) (by decide)) (hf 4 _ rfl) (by rw [hxs]; decide)
 have hb := BK.agg (u0.next (u1.next (u2.next (u3.next (u4.next (BK.done))))))
 refine ⟨⟨b0, b1, b2, b3, b4⟩, ⟨k0, k1, k2, k3, k4⟩, hb, v0.next (v1.next (v2.next (v3.next (v4.next (VRC.done (n := 5) (hlen.trans hc))))))⟩
instance : Vol Need3 := ⟨fun p => 1 + (Vol.vol p.kind + (Vol.vol p.block + (Vol.vol p.on + (0)))), fun _ => Nat.le_add_right _ _⟩
def okNeed3 (p : Need3) : Prop := In64 p.kind ∧ p.block.size ≤ maxLen ∧ p.on.size ≤ maxLen
theorem opensB_Need3 {w : World} : OpensB Tryz.prog w 115 Need3 okNeed3 := fun H enc base spare held fuel cs x h => by
 obtain ⟨xs, n, _, rfl, hlen, hxs, hf⟩ := DataW.trod_struct Tryz.underlying115 h
 have hc : Tryz.prog.cellsOf 115 = 3 := by kernel_rfl
 obtain ⟨b0, k0, u0, v0⟩ := fieldB (opensB_int Tryz.underlying3) (hf 0 _ rfl) (by rw [hxs]; decide)
 obtain ⟨b1, k1, u1, v1⟩ := fieldB (opensB_string Tryz.underlying9) (hf 1 _ rfl) (by rw [hxs]; decide)
 obtain ⟨b2, k2, u2, v2⟩ := fieldB (opensB_string Tryz.underlying9) (hf 2 _ rfl) (by rw [hxs]; decide)
 have hb := BK.agg (u0.next (u1.next (u2.next (BK.done))))
 refine ⟨⟨b0, b1, b2⟩, ⟨k0, k1, k2⟩, hb, v0.next (v1.next (v2.next (VRC.done (n := 3) (hlen.trans hc))))⟩
instance : Vol Edit := ⟨fun p => 1 + (Vol.vol p.kind + (Vol.vol p.id + (Vol.vol p.to + (Vol.vol p.node + (Vol.vol p.part + (Vol.vol p.seam + (Vol.vol p.pack + (Vol.vol p.need + (0))))))))), fun _ => Nat.le_add_right _ _⟩
def okEdit (p : Edit) : Prop := In64 p.kind ∧ p.id.size ≤ maxLen ∧ p.to.size ≤ maxLen ∧ okNode3 p.node ∧ okPart p.part ∧ okSeam6 p.seam ∧ okPack5 p.pack ∧ okNeed3 p.need
theorem opensB_Edit {w : World} : OpensB Tryz.prog w 117 Edit okEdit := fun H enc base spare held fuel cs x h => by
 obtain ⟨xs, n, _, rfl, hlen, hxs, hf⟩ := DataW.trod_struct Tryz.underlying117 h
 have hc : Tryz.prog.cellsOf 117 = 38 := by kernel_rfl
 obtain ⟨b0, k0, u0, v0⟩ := fieldB (opensB_int Tryz.underlying3) (hf 0 _ rfl) (by rw [hxs]; decide)
 obtain ⟨b1, k1, u1, v1⟩ := fieldB (opensB_string Tryz.underlying9) (hf 1 _ rfl) (by rw [hxs]; decide)
 obtain ⟨b2, k2, u2, v2⟩ := fieldB (opensB_string Tryz.underlying9) (hf 2 _ rfl) (by rw [hxs]; decide)
 obtain ⟨b3, k3, u3, v3⟩ := fieldB opensB_Node3 (hf 3 _ rfl) (by rw [hxs]; decide)
 obtain ⟨b4, k4, u4, v4⟩ := fieldB opensB_Part (hf 4 _ rfl) (by rw [hxs]; decide)
 obtain ⟨b5, k5, u5, v5⟩ := fieldB opensB_Seam6 (hf 5 _ rfl) (by rw [hxs]; decide)
 obtain ⟨b6, k6, u6, v6⟩ := fieldB opensB_Pack5 (hf 6 _ rfl) (by rw [hxs]; decide)
 obtain ⟨b7, k7, u7, v7⟩ := fieldB opensB_Need3 (hf 7 _ rfl) (by rw [hxs]; decide)
 have hb := BK.agg (u0.next (u1.next (u2.next (u3.next (u4.next (u5.next (u6.next (u7.next (BK.done)))))))))
 refine ⟨⟨b0, b1, b2, b3, b4, b5, b6, b7⟩, ⟨k0, k1, k2, k3, k4, k5, k6, k7⟩, hb, v0.next (v1.next (v2.next (v3.next (v4.next (v5.next (v6.next (v7.next (VRC.done (n := 38) (hlen.trans hc)))))))))⟩
theorem opensB_Edits {w : World} : OpensB Tryz.prog w 22 (List Edit) fun l => l.length ≤ maxLen ∧ ∀ a ∈ l, okEdit a := opensB_slice Tryz.underlying22 opensB_Edit (by kernel_rfl) (by decide)
instance : Vol Order2 := ⟨fun p => 1 + (Vol.vol p.id + (Vol.vol p.edits + (0))), fun _ => Nat.le_add_right _ _⟩
def okOrder2 (p : Order2) : Prop := p.id.size ≤ maxLen ∧ (p.edits.length ≤ maxLen ∧ ∀ a ∈ p.edits, okEdit a)
theorem opensB_Order2 {w : World} : OpensB Tryz.prog w 24 Order2 okOrder2 := fun H enc base spare held fuel cs x h => by
 obtain ⟨xs, n, _, rfl, hlen, hxs, hf⟩ := DataW.trod_struct Tryz.underlying24 h
 have hc : Tryz.prog.cellsOf 24 = 2 := by kernel_rfl
 obtain ⟨b0, k0, u0, v0⟩ := fieldB (opensB_string Tryz.underlying9) (hf 0 _ rfl) (by rw [hxs]; decide)
 obtain ⟨b1, k1, u1, v1⟩ := fieldB opensB_Edits (hf 1 _ rfl) (by rw [hxs]; decide)
 have hb := BK.agg (u0.next (u1.next (BK.done)))
 refine ⟨⟨b0, b1⟩, ⟨k0, k1⟩, hb, v0.next (v1.next (VRC.done (n := 2) (hlen.trans hc)))⟩
instance : Vol Sheet6 := ⟨fun p => 1 + (Vol.vol p.id + (Vol.vol p.grade + (Vol.vol p.thick + (Vol.vol p.long + (Vol.vol p.width + (Vol.vol p.heat + (0))))))), fun _ => Nat.le_add_right _ _⟩
def okSheet6 (p : Sheet6) : Prop := p.id.size ≤ maxLen ∧ p.grade.size ≤ maxLen ∧ In64 p.thick ∧ In64 p.long ∧ In64 p.width ∧ p.heat.size ≤ maxLen
theorem opensB_Sheet6 {w : World} : OpensB Tryz.prog w 26 Sheet6 okSheet6 := fun H enc base spare held fuel cs x h => by
 obtain ⟨xs, n, _, rfl, hlen, hxs, hf⟩ := DataW.trod_struct Tryz.underlying26 h
 have hc : Tryz.prog.cellsOf 26 = 6 := by kernel_rfl
 obtain ⟨b0, k0, u0, v0⟩ := fieldB (opensB_string Tryz.underlying9) (hf 0 _ rfl) (by rw [hxs]; decide)
 obtain ⟨b1, k1, u1, v1⟩ := fieldB (opensB_string Tryz.underlying9) (hf 1 _ rfl) (by rw [hxs]; decide)
 obtain ⟨b2, k2, u2, v2⟩ := fieldB (opensB_int Tryz.underlying3) (hf 2 _ rfl) (by rw [hxs]; decide)
 obtain ⟨b3, k3, u3, v3⟩ := fieldB (opensB_int Tryz.underlying3) (hf 3 _ rfl) (by rw [hxs]; decide)
 obtain ⟨b4, k4, u4, v4⟩ := fieldB (opensB_int Tryz.underlying3) (hf 4 _ rfl) (by rw [hxs]; decide)
 obtain ⟨b5, k5, u5, v5⟩ := fieldB (opensB_string Tryz.underlying9) (hf 5 _ rfl) (by rw [hxs]; decide)
 have hb := BK.agg (u0.next (u1.next (u2.next (u3.next (u4.next (u5.next (BK.done)))))))
 refine ⟨⟨b0, b1, b2, b3, b4, b5⟩, ⟨k0, k1, k2, k3, k4, k5⟩, hb, v0.next (v1.next (v2.next (v3.next (v4.next (v5.next (VRC.done (n := 6) (hlen.trans hc)))))))⟩
instance : Vol Bar5 := ⟨fun p => 1 + (Vol.vol p.id + (Vol.vol p.sect + (Vol.vol p.grade + (Vol.vol p.long + (Vol.vol p.heat + (0)))))), fun _ => Nat.le_add_right _ _⟩
def okBar5 (p : Bar5) : Prop := p.id.size ≤ maxLen ∧ p.sect.size ≤ maxLen ∧ p.grade.size ≤ maxLen ∧ In64 p.long ∧ p.heat.size ≤ maxLen
theorem opensB_Bar5 {w : World} : OpensB Tryz.prog w 28 Bar5 okBar5 := fun H enc base spare held fuel cs x h => by
 obtain ⟨xs, n, _, rfl, hlen, hxs, hf⟩ := DataW.trod_struct Tryz.underlying28 h
 have hc : Tryz.prog.cellsOf 28 = 5 := by kernel_rfl
 obtain ⟨b0, k0, u0, v0⟩ := fieldB (opensB_string Tryz.underlying9) (hf 0 _ rfl) (by rw [hxs]; decide)
 obtain ⟨b1, k1, u1, v1⟩ := fieldB (opensB_string Tryz.underlying9) (hf 1 _ rfl) (by rw [hxs]; decide)
 obtain ⟨b2, k2, u2, v2⟩ := fieldB (opensB_string Tryz.underlying9) (hf 2 _ rfl) (by rw [hxs]; decide)
 obtain ⟨b3, k3, u3, v3⟩ := fieldB (opensB_int Tryz.underlying3) (hf 3 _ rfl) (by rw [hxs]; decide)
 obtain ⟨b4, k4, u4, v4⟩ := fieldB (opensB_string Tryz.underlying9) (hf 4 _ rfl) (by rw [hxs]; decide)
 have hb := BK.agg (u0.next (u1.next (u2.next (u3.next (u4.next (BK.done))))))
 refine ⟨⟨b0, b1, b2, b3, b4⟩, ⟨k0, k1, k2, k3, k4⟩, hb, v0.next (v1.next (v2.next (v3.next (v4.next (VRC.done (n := 5) (hlen.trans hc))))))⟩
instance : Vol Spot := ⟨fun p => 1 + (Vol.vol p.part + (Vol.vol p.at_ + (Vol.vol p.turn + (Vol.vol p.flip + (0))))), fun _ => Nat.le_add_right _ _⟩
def okSpot (p : Spot) : Prop := p.part.size ≤ maxLen ∧ okPt p.at_ ∧ In64 p.turn ∧ True
theorem opensB_Spot {w : World} : OpensB Tryz.prog w 134 Spot okSpot := fun H enc base spare held fuel cs x h => by
 obtain ⟨xs, n, _, rfl, hlen, hxs, hf⟩ := DataW.trod_struct Tryz.underlying134 h
 have hc : Tryz.prog.cellsOf 134 = 5 := by kernel_rfl
 obtain ⟨b0, k0, u0, v0⟩ := fieldB (opensB_string Tryz.underlying9) (hf 0 _ rfl) (by rw [hxs]; decide)
 obtain ⟨b1, k1, u1, v1⟩ := fieldB opensB_Pt (hf 1 _ rfl) (by rw [hxs]; decide)
 obtain ⟨b2, k2, u2, v2⟩ := fieldB (opensB_int Tryz.underlying3) (hf 2 _ rfl) (by rw [hxs]; decide)
 obtain ⟨b3, k3, u3, v3⟩ := fieldB (opensB_bool Tryz.underlying4) (hf 3 _ rfl) (by rw [hxs]; decide)
 have hb := BK.agg (u0.next (u1.next (u2.next (u3.next (BK.done)))))
 refine ⟨⟨b0, b1, b2, b3⟩, ⟨k0, k1, k2, k3⟩, hb, v0.next (v1.next (v2.next (v3.next (VRC.done (n := 5) (hlen.trans hc)))))⟩
theorem opensB_Spots {w : World} : OpensB Tryz.prog w 29 (List Spot) fun l => l.length ≤ maxLen ∧ ∀ a ∈ l, okSpot a := opensB_slice Tryz.underlying29 opensB_Spot (by kernel_rfl) (by decide)
instance : Vol Nest3 := ⟨fun p => 1 + (Vol.vol p.sheet + (Vol.vol p.gap + (Vol.vol p.spots + (0)))), fun _ => Nat.le_add_right _ _⟩
def okNest3 (p : Nest3) : Prop := p.sheet.size ≤ maxLen ∧ In64 p.gap ∧ (p.spots.length ≤ maxLen ∧ ∀ a ∈ p.spots, okSpot a)
theorem opensB_Nest3 {w : World} : OpensB Tryz.prog w 31 Nest3 okNest3 := fun H enc base spare held fuel cs x h => by
 obtain ⟨xs, n, _, rfl, hlen, hxs, hf⟩ := DataW.trod_struct Tryz.underlying31 h
 have hc : Tryz.prog.cellsOf 31 = 3 := by kernel_rfl
 obtain ⟨b0, k0, u0, v0⟩ := fieldB (opensB_string Tryz.underlying9) (hf 0 _ rfl) (by rw [hxs]; decide)
 obtain ⟨b1, k1, u1, v1⟩ := fieldB (opensB_int Tryz.underlying3) (hf 1 _ rfl) (by rw [hxs]; decide)
 obtain ⟨b2, k2, u2, v2⟩ := fieldB opensB_Spots (hf 2 _ rfl) (by rw [hxs]; decide)
 have hb := BK.agg (u0.next (u1.next (u2.next (BK.done))))
 refine ⟨⟨b0, b1, b2⟩, ⟨k0, k1, k2⟩, hb, v0.next (v1.next (v2.next (VRC.done (n := 3) (hlen.trans hc))))⟩
instance : Vol Saw3 := ⟨fun p => 1 + (Vol.vol p.bar + (Vol.vol p.kerf + (Vol.vol p.parts + (0)))), fun _ => Nat.le_add_right _ _⟩
def okSaw3 (p : Saw3) : Prop := p.bar.size ≤ maxLen ∧ In64 p.kerf ∧ (p.parts.length ≤ maxLen ∧ ∀ a ∈ p.parts, a.size ≤ maxLen)
theorem opensB_Saw3 {w : World} : OpensB Tryz.prog w 34 Saw3 okSaw3 := fun H enc base spare held fuel cs x h => by
 obtain ⟨xs, n, _, rfl, hlen, hxs, hf⟩ := DataW.trod_struct Tryz.underlying34 h
 have hc : Tryz.prog.cellsOf 34 = 3 := by kernel_rfl
 obtain ⟨b0, k0, u0, v0⟩ := fieldB (opensB_string Tryz.underlying9) (hf 0 _ rfl) (by rw [hxs]; decide)
 obtain ⟨b1, k1, u1, v1⟩ := fieldB (opensB_int Tryz.underlying3) (hf 1 _ rfl) (by rw [hxs]; decide)
 obtain ⟨b2, k2, u2, v2⟩ := fieldB (opensB_slice Tryz.underlying32 (opensB_string Tryz.underlying9) (by kernel_rfl) (by decide)) (hf 2 _ rfl) (by rw [hxs]; decide)
 have hb := BK.agg (u0.next (u1.next (u2.next (BK.done))))
 refine ⟨⟨b0, b1, b2⟩, ⟨k0, k1, k2⟩, hb, v0.next (v1.next (v2.next (VRC.done (n := 3) (hlen.trans hc))))⟩
instance : Vol Weig := ⟨fun p => 1 + (Vol.vol p.block + (Vol.vol p.at_ + (Vol.vol p.mass + (Vol.vol p.centre + (Vol.vol p.sigma + (Vol.vol p.parts + (0))))))), fun _ => Nat.le_add_right _ _⟩
def okWeig (p : Weig) : Prop := p.block.size ≤ maxLen ∧ In64 p.at_ ∧ In64 p.mass ∧ okVec3 p.centre ∧ In64 p.sigma ∧ (p.parts.length ≤ maxLen ∧ ∀ a ∈ p.parts, a.size ≤ maxLen)
theorem opensB_Weig {w : World} : OpensB Tryz.prog w 38 Weig okWeig := fun H enc base spare held fuel cs x h => by
 obtain ⟨xs, n, _, rfl, hlen, hxs, hf⟩ := DataW.trod_struct Tryz.underlying38 h
 have hc : Tryz.prog.cellsOf 38 = 8 := by kernel_rfl
 obtain ⟨b0, k0, u0, v0⟩ := fieldB (opensB_string Tryz.underlying9) (hf 0 _ rfl) (by rw [hxs]; decide)
 obtain ⟨b1, k1, u1, v1⟩ := fieldB (opensB_int Tryz.underlying3) (hf 1 _ rfl) (by rw [hxs]; decide)
 obtain ⟨b2, k2, u2, v2⟩ := fieldB (opensB_int Tryz.underlying3) (hf 2 _ rfl) (by rw [hxs]; decide)
 obtain ⟨b3, k3, u3, v3⟩ := fieldB opensB_Vec3 (hf 3 _ rfl) (by rw [hxs]; decide)
 obtain ⟨b4, k4, u4, v4⟩ := fieldB (opensB_int Tryz.underlying3) (hf 4 _ rfl) (by rw [hxs]; decide)
 obtain ⟨b5, k5, u5, v5⟩ := fieldB (opensB_slice Tryz.underlying32 (opensB_string Tryz.underlying9) (by kernel_rfl) (by decide)) (hf 5 _ rfl) (by rw [hxs]; decide)
 have hb := BK.agg (u0.next (u1.next (u2.next (u3.next (u4.next (u5.next (BK.done)))))))
 refine ⟨⟨b0, b1, b2, b3, b4, b5⟩, ⟨k0, k1, k2, k3, k4, k5⟩, hb, v0.next (v1.next (v2.next (v3.next (v4.next (v5.next (VRC.done (n := 8) (hlen.trans hc)))))))⟩
instance : Vol Hook4 := ⟨fun p => 1 + (Vol.vol p.crane + (Vol.vol p.at_ + (Vol.vol p.radius + (0)))), fun _ => Nat.le_add_right _ _⟩
def okHook4 (p : Hook4) : Prop := p.crane.size ≤ maxLen ∧ okPt p.at_ ∧ In64 p.radius
theorem opensB_Hook4 {w : World} : OpensB Tryz.prog w 145 Hook4 okHook4 := fun H enc base spare held fuel cs x h => by
 obtain ⟨xs, n, _, rfl, hlen, hxs, hf⟩ := DataW.trod_struct Tryz.underlying145 h
 have hc : Tryz.prog.cellsOf 145 = 4 := by kernel_rfl
 obtain ⟨b0, k0, u0, v0⟩ := fieldB (opensB_string Tryz.underlying9) (hf 0 _ rfl) (by rw [hxs]; decide)
 obtain ⟨b1, k1, u1, v1⟩ := fieldB opensB_Pt (hf 1 _ rfl) (by rw [hxs]; decide)
 obtain ⟨b2, k2, u2, v2⟩ := fieldB (opensB_int Tryz.underlying3) (hf 2 _ rfl) (by rw [hxs]; decide)
 have hb := BK.agg (u0.next (u1.next (u2.next (BK.done))))
 refine ⟨⟨b0, b1, b2⟩, ⟨k0, k1, k2⟩, hb, v0.next (v1.next (v2.next (VRC.done (n := 4) (hlen.trans hc))))⟩
theorem opensB_Hook4s {w : World} : OpensB Tryz.prog w 39 (List Hook4) fun l => l.length ≤ maxLen ∧ ∀ a ∈ l, okHook4 a := opensB_slice Tryz.underlying39 opensB_Hook4 (by kernel_rfl) (by decide)
instance : Vol Lift2 := ⟨fun p => 1 + (Vol.vol p.block + (Vol.vol p.hooks + (0))), fun _ => Nat.le_add_right _ _⟩
def okLift2 (p : Lift2) : Prop := p.block.size ≤ maxLen ∧ (p.hooks.length ≤ maxLen ∧ ∀ a ∈ p.hooks, okHook4 a)
theorem opensB_Lift2 {w : World} : OpensB Tryz.prog w 41 Lift2 okLift2 := fun H enc base spare held fuel cs x h => by
 obtain ⟨xs, n, _, rfl, hlen, hxs, hf⟩ := DataW.trod_struct Tryz.underlying41 h
 have hc : Tryz.prog.cellsOf 41 = 2 := by kernel_rfl
 obtain ⟨b0, k0, u0, v0⟩ := fieldB (opensB_string Tryz.underlying9) (hf 0 _ rfl) (by rw [hxs]; decide)
 obtain ⟨b1, k1, u1, v1⟩ := fieldB opensB_Hook4s (hf 1 _ rfl) (by rw [hxs]; decide)
 have hb := BK.agg (u0.next (u1.next (BK.done)))
 refine ⟨⟨b0, b1⟩, ⟨k0, k1⟩, hb, v0.next (v1.next (VRC.done (n := 2) (hlen.trans hc)))⟩
instance : Vol Span2 := ⟨fun p => 1 + (Vol.vol p.a + (Vol.vol p.b + (0))), fun _ => Nat.le_add_right _ _⟩
def okSpan2 (p : Span2) : Prop := In64 p.a ∧ In64 p.b
theorem opensB_Span2 {w : World} : OpensB Tryz.prog w 43 Span2 okSpan2 := fun H enc base spare held fuel cs x h => by
 obtain ⟨xs, n, _, rfl, hlen, hxs, hf⟩ := DataW.trod_struct Tryz.underlying43 h
 have hc : Tryz.prog.cellsOf 43 = 2 := by kernel_rfl
 obtain ⟨b0, k0, u0, v0⟩ := fieldB (opensB_int Tryz.underlying3) (hf 0 _ rfl) (by rw [hxs]; decide)
 obtain ⟨b1, k1, u1, v1⟩ := fieldB (opensB_int Tryz.underlying3) (hf 1 _ rfl) (by rw [hxs]; decide)
 have hb := BK.agg (u0.next (u1.next (BK.done)))
 refine ⟨⟨b0, b1⟩, ⟨k0, k1⟩, hb, v0.next (v1.next (VRC.done (n := 2) (hlen.trans hc)))⟩
instance : Vol Permit3 := ⟨fun p => 1 + (Vol.vol p.id + (Vol.vol p.kind + (Vol.vol p.time + (0)))), fun _ => Nat.le_add_right _ _⟩
def okPermit3 (p : Permit3) : Prop := p.id.size ≤ maxLen ∧ In64 p.kind ∧ okSpan2 p.time
theorem opensB_Permit3 {w : World} : OpensB Tryz.prog w 45 Permit3 okPermit3 := fun H enc base spare held fuel cs x h => by
 obtain ⟨xs, n, _, rfl, hlen, hxs, hf⟩ := DataW.trod_struct Tryz.underlying45 h
 have hc : Tryz.prog.cellsOf 45 = 4 := by kernel_rfl
 obtain ⟨b0, k0, u0, v0⟩ := fieldB (opensB_string Tryz.underlying9) (hf 0 _ rfl) (by rw [hxs]; decide)
 obtain ⟨b1, k1, u1, v1⟩ := fieldB (opensB_int Tryz.underlying3) (hf 1 _ rfl) (by rw [hxs]; decide)
 obtain ⟨b2, k2, u2, v2⟩ := fieldB opensB_Span2 (hf 2 _ rfl) (by rw [hxs]; decide)
 have hb := BK.agg (u0.next (u1.next (u2.next (BK.done))))
 refine ⟨⟨b0, b1, b2⟩, ⟨k0, k1, k2⟩, hb, v0.next (v1.next (v2.next (VRC.done (n := 4) (hlen.trans hc))))⟩
instance : Vol Event := ⟨fun p => 1 + (Vol.vol p.kind + (Vol.vol p.at_ + (Vol.vol p.item + (Vol.vol p.of_ + (Vol.vol p.by_ + (Vol.vol p.n + (Vol.vol p.pass + (Vol.vol p.order + (Vol.vol p.sheet + (Vol.vol p.bar + (Vol.vol p.nest + (Vol.vol p.saw + (Vol.vol p.weig + (Vol.vol p.lift + (Vol.vol p.permit + (0)))))))))))))))), fun _ => Nat.le_add_right _ _⟩
def okEvent (p : Event) : Prop := In64 p.kind ∧ In64 p.at_ ∧ p.item.size ≤ maxLen ∧ p.of_.size ≤ maxLen ∧ p.by_.size ≤ maxLen ∧ In64 p.n ∧ True ∧ okOrder2 p.order ∧ okSheet6 p.sheet ∧ okBar5 p.bar ∧ okNest3 p.nest ∧ okSaw3 p.saw ∧ okWeig p.weig ∧ okLift2 p.lift ∧ okPermit3 p.permit
set_option maxHeartbeats 2000000 in
theorem opensB_Event {w : World} : OpensB Tryz.prog w 47 Event okEvent := fun H enc base spare held fuel cs x h => by
 obtain ⟨xs, n, _, rfl, hlen, hxs, hf⟩ := DataW.trod_struct Tryz.underlying47 h
 have hc : Tryz.prog.cellsOf 47 = 40 := by kernel_rfl
 obtain ⟨b0, k0, u0, v0⟩ := fieldB (opensB_int Tryz.underlying3) (hf 0 _ rfl) (by rw [hxs]; decide)
 obtain ⟨b1, k1, u1, v1⟩ := fieldB (opensB_int Tryz.underlying3) (hf 1 _ rfl) (by rw [hxs]; decide)
 obtain ⟨b2, k2, u2, v2⟩ := fieldB (opensB_string Tryz.underlying9) (hf 2 _ rfl) (by rw [hxs]; decide)
 obtain ⟨b3, k3, u3, v3⟩ := fieldB (opensB_string Tryz.underlying9) (hf 3 _ rfl) (by rw [hxs]; decide)
 obtain ⟨b4, k4, u4, v4⟩ := fieldB (opensB_string Tryz.underlying9) (hf 4 _ rfl) (by rw [hxs]; decide)
 obtain ⟨b5, k5, u5, v5⟩ := fieldB (opensB_int Tryz.underlying3) (hf 5 _ rfl) (by rw [hxs]; decide)
 obtain ⟨b6, k6, u6, v6⟩ := fieldB (opensB_bool Tryz.underlying4) (hf 6 _ rfl) (by rw [hxs]; decide)
 obtain ⟨b7, k7, u7, v7⟩ := fieldB opensB_Order2 (hf 7 _ rfl) (by rw [hxs]; decide)
 obtain ⟨b8, k8, u8, v8⟩ := fieldB opensB_Sheet6 (hf 8 _ rfl) (by rw [hxs]; decide)
 obtain ⟨b9, k9, u9, v9⟩ := fieldB opensB_Bar5 (hf 9 _ rfl) (by rw [hxs]; decide)
 obtain ⟨b10, k10, u10, v10⟩ := fieldB opensB_Nest3 (hf 10 _ rfl) (by rw [hxs]; decide)
 obtain ⟨b11, k11, u11, v11⟩ := fieldB opensB_Saw3 (hf 11 _ rfl) (by rw [hxs]; decide)
 obtain ⟨b12, k12, u12, v12⟩ := fieldB opensB_Weig (hf 12 _ rfl) (by rw [hxs]; decide)
 obtain ⟨b13, k13, u13, v13⟩ := fieldB opensB_Lift2 (hf 13 _ rfl) (by rw [hxs]; decide)
 obtain ⟨b14, k14, u14, v14⟩ := fieldB opensB_Permit3 (hf 14 _ rfl) (by rw [hxs]; decide)
 have hb := BK.agg (u0.next (u1.next (u2.next (u3.next (u4.next (u5.next (u6.next (u7.next (u8.next (u9.next (u10.next (u11.next (u12.next (u13.next (u14.next (BK.done))))))))))))))))
 refine ⟨⟨b0, b1, b2, b3, b4, b5, b6, b7, b8, b9, b10, b11, b12, b13, b14⟩, ⟨k0, k1, k2, k3, k4, k5, k6, k7, k8, k9, k10, k11, k12, k13, k14⟩, hb, v0.next (v1.next (v2.next (v3.next (v4.next (v5.next (v6.next (v7.next (v8.next (v9.next (v10.next (v11.next (v12.next (v13.next (v14.next (VRC.done (n := 40) (hlen.trans hc))))))))))))))))⟩
end Go.Proofs.YtegjnjmimfgijaaGreatDoor

noncomputable section
namespace Go.Proofs.YtegjnjmimfgijaaGreatDoor
open Go Go.RowKit
set_option maxRecDepth 100000
theorem volL_le (l : List ByteArray) : volL l + 1 ≤ Vol.vol l := by
 show _ ≤ 1 + (l.map Vol.vol).sum
 unfold volL
 induction l with
 | nil => simp
 | cons a l ih =>
  have : Vol.vol a = 1 + a.size := rfl
  simp only [List.map_cons, List.sum_cons]
  omega
theorem volE_le (x : Edit) : volE x ≤ Vol.vol x := by
 have h1 := volL_le x.pack.parts
 have h2 := volL_le x.pack.after
 have v : ∀ s : ByteArray, Vol.vol s = 1 + s.size := fun _ => rfl
 have e : Vol.vol x = 1 + (Vol.vol x.kind + (Vol.vol x.id + (Vol.vol x.to + (Vol.vol x.node + (Vol.vol x.part + (Vol.vol x.seam + (Vol.vol x.pack + (Vol.vol x.need + 0)))))))) := rfl
 have e1 : Vol.vol x.node = 1 + (Vol.vol x.node.id + (Vol.vol x.node.kind + (Vol.vol x.node.parent + 0))) := rfl
 have e2 : Vol.vol x.seam = 1 + (Vol.vol x.seam.id + (Vol.vol x.seam.a + (Vol.vol x.seam.b + (Vol.vol x.seam.kind + (Vol.vol x.seam.long + (Vol.vol x.seam.cls + 0)))))) := rfl
 have e3 : Vol.vol x.pack = 1 + (Vol.vol x.pack.id + (Vol.vol x.pack.block + (Vol.vol x.pack.parts + (Vol.vol x.pack.hours + (Vol.vol x.pack.after + 0))))) := rfl
 have e4 : Vol.vol x.need = 1 + (Vol.vol x.need.kind + (Vol.vol x.need.block + (Vol.vol x.need.on + 0))) := rfl
 have e5 : volP x.part ≤ Vol.vol x.part := by
  have f : Vol.vol x.part = 1 + (Vol.vol x.part.id + (Vol.vol x.part.rev + (Vol.vol x.part.kind + (Vol.vol x.part.node + (Vol.vol x.part.grade + (Vol.vol x.part.thick + (Vol.vol x.part.outer + (Vol.vol x.part.holes + (Vol.vol x.part.sect + (Vol.vol x.part.long + (Vol.vol x.part.mass + (Vol.vol x.part.centre + (Vol.vol x.part.at_ + (Vol.vol x.part.turn + 0)))))))))))))) := rfl
  have := v x.part.id; have := v x.part.node; have := v x.part.grade; have := v x.part.sect
  unfold volP
  omega
 have := v x.id; have := v x.to; have := v x.node.id; have := v x.node.parent; have := v x.seam.id; have := v x.seam.a; have := v x.seam.b; have := v x.pack.id; have := v x.pack.block; have := v x.need.block; have := v x.need.on
 unfold volE
 omega
theorem volO_le (o : Order2) : volO o ≤ Vol.vol o := by
 have e : Vol.vol o = 1 + (Vol.vol o.id + (Vol.vol o.edits + 0)) := rfl
 have v : Vol.vol o.id = 1 + o.id.size := rfl
 have h : vol2 o.edits ≤ Vol.vol o.edits := by
  show _ ≤ 1 + (o.edits.map Vol.vol).sum
  unfold vol2
  generalize o.edits = l
  induction l with
  | nil => simp
  | cons a l ih =>
   have := volE_le a
   simp only [List.map_cons, List.sum_cons]
   omega
 unfold volO
 omega
theorem vol_order (x : Event) : Vol.vol x.order ≤ Vol.vol x := by
 have e : Vol.vol x = 1 + (Vol.vol x.kind + (Vol.vol x.at_ + (Vol.vol x.item + (Vol.vol x.of_ + (Vol.vol x.by_ + (Vol.vol x.n + (Vol.vol x.pass + (Vol.vol x.order + (Vol.vol x.sheet + (Vol.vol x.bar + (Vol.vol x.nest + (Vol.vol x.saw + (Vol.vol x.weig + (Vol.vol x.lift + (Vol.vol x.permit + 0))))))))))))))) := rfl
 omega
theorem in_order {o : Order2} (h : okOrder2 o) : InOrder o := ⟨fun x hx => by
 obtain ⟨h1, _, _, h4, h5, h6, h7, h8⟩ := h.2.2 x hx
 exact ⟨h1, h4.2.1, h5, h6.2.2.2.1, h6.2.2.2.2.1, h6.2.2.2.2.2, h7.2.2.2.1, h8.1⟩⟩
structure GoodEv (x : Event) : Prop where
 ok : okEvent x
 vol : Vol.vol x ≤ 1048576
theorem GoodEv.inO {x : Event} (h : GoodEv x) : InOrder x.order := in_order h.ok.2.2.2.2.2.2.2.1
theorem few_fewO {x : Event} {m : Int} (h : GoodEv x) (f : few59 x m) (hm : m ≤ 1000) : FewO x.order := by
 obtain ⟨⟨_, f2, f3⟩, _⟩ := f
 refine ⟨?_, by omega, fun e he => ?_⟩
 ·exact Nat.le_trans (volO_le x.order) (Nat.le_trans (vol_order x) (Nat.le_trans h.vol (by decide)))
 ·obtain ⟨g1, g2, g3, g4, g5⟩ := f3 e he
  exact ⟨by omega, by omega, by omega, by omega, fun l hl => by have := g5 l hl; omega⟩
theorem few_shortEv {x : Event} {m : Int} (f : few59 x m) (hm : m ≤ 1000) : ShortEv x := by
 obtain ⟨⟨_, f2, f3⟩, f4, f5, f6, f7⟩ := f
 refine ⟨⟨by omega, fun e he => ?_⟩, ?_, ?_, ?_, ?_⟩
 ·obtain ⟨g1, g2, g3, g4, g5⟩ := f3 e he
  exact ⟨⟨by show _ < _; omega, by show _ < _; omega, fun l hl => by have := g5 l hl; show _ < _; omega⟩, by show _ < _; omega, by show _ < _; omega⟩
 all_goals show _ < _; omega
end Go.Proofs.YtegjnjmimfgijaaGreatDoor

noncomputable section
namespace Go.Proofs.YtegjnjmimfgijaaGreatDoor
open Go Go.RowKit
set_option maxRecDepth 100000
def inlC : List FuncId := [47, 48, 49, 50, 51, 158, 159, 160, 161, 162, 129, 130, 131, 132, 133]
def callC2 : PCall := inlP Tryz.prog inlC noP 4
theorem callC2_ok : PCallOk Tryz.prog callC2 := inlP_ok mixed noP_ok 4
abbrev argsLim : List Value := [.pointer (some ⟨0, 0, none⟩), .iface 67 (.pointer (some ⟨1, 0, none⟩))]
end Go.Proofs.YtegjnjmimfgijaaGreatDoor

noncomputable section
namespace Go.Proofs.YtegjnjmimfgijaaGreatDoor
open Go Go.RowKit
set_option maxRecDepth 100000
set_option maxHeartbeats 4000000
theorem pIfD {P : Prop} [Decidable P] {X Y : Prop} (h1 : P → X) (h2 : ¬ P → Y) : pIf (decide P) X Y := pIf_intro (fun h => h1 (of_decide_eq_true h)) (fun h => h2 (of_decide_eq_false h))
theorem pIfN {P : Prop} [Decidable P] {X Y : Prop} (h1 : ¬ P → X) (h2 : P → Y) : pIf (!decide P) X Y := pIf_intro (fun h => h1 (by simpa using h)) (fun h => h2 (by simpa using h))
theorem any_take {α : Type} {l : List α} {f : α → Bool} {k : Nat} (h : k < l.length) : (l.take (k + 1)).any f = ((l.take k).any f || f l[k]) := by
 rw [List.take_succ_eq_append_getElem h, List.any_append]
 simp
end Go.Proofs.YtegjnjmimfgijaaGreatDoor

noncomputable section
namespace Go.Proofs.YtegjnjmimfgijaaGreatDoor
open Go Go.RowKit
set_option maxRecDepth 100000
def callSp : VCall := inlCall Tryz.prog [97, 104] (tabCall [⟨96, c_Cnt⟩, ⟨107, c_Idx⟩] noCall) 3
theorem callSp_ok : VCallOk Tryz.prog callSp := inlCall_ok mixed (tabCall_ok (by
 intro e he
 simp only [List.mem_cons, List.not_mem_nil, or_false] at he
 rcases he with rfl | rfl
 ·exact ok_Cnt
 ·exact ok_Idx) noCall_ok) 3
theorem e_gs (s : ByteArray) (H : Code → List Fr → AS → Prop) (Post : Value → Prop) : vcP Tryz.prog callSp 86 [(11, [0, 1, 2, 3, 9, 10])] [.string s, .string dot, .int .i64 0, .int .i64 (-1)] H Post = (T8 (True ∧ dot = dot ∧ T8 (True ∧ ((0 ≤ if IntKind.wrap IntKind.i64 ((↑(ByteArray.size s) : Int) + 1) < IntKind.wrap IntKind.i64 ((↑(Lib.countByte (Array.toList (ByteArray.data s)) 46) : Int) + 1) then IntKind.wrap IntKind.i64 ((↑(ByteArray.size s) : Int) + 1) else IntKind.wrap IntKind.i64 ((↑(Lib.countByte (Array.toList (ByteArray.data s)) 46) : Int) + 1)) ∧ ((if IntKind.wrap IntKind.i64 ((↑(ByteArray.size s) : Int) + 1) < IntKind.wrap IntKind.i64 ((↑(Lib.countByte (Array.toList (ByteArray.data s)) 46) : Int) + 1) then IntKind.wrap IntKind.i64 ((↑(ByteArray.size s) : Int) + 1) else IntKind.wrap IntKind.i64 ((↑(Lib.countByte (Array.toList (ByteArray.data s)) 46) : Int) + 1)) ≤ if IntKind.wrap IntKind.i64 ((↑(ByteArray.size s) : Int) + 1) < IntKind.wrap IntKind.i64 ((↑(Lib.countByte (Array.toList (ByteArray.data s)) 46) : Int) + 1) then IntKind.wrap IntKind.i64 ((↑(ByteArray.size s) : Int) + 1) else IntKind.wrap IntKind.i64 ((↑(Lib.countByte (Array.toList (ByteArray.data s)) 46) : Int) + 1)) ∧ (if IntKind.wrap IntKind.i64 ((↑(ByteArray.size s) : Int) + 1) < IntKind.wrap IntKind.i64 ((↑(Lib.countByte (Array.toList (ByteArray.data s)) 46) : Int) + 1) then IntKind.wrap IntKind.i64 ((↑(ByteArray.size s) : Int) + 1) else IntKind.wrap IntKind.i64 ((↑(Lib.countByte (Array.toList (ByteArray.data s)) 46) : Int) + 1)) ≤ 2 ^ 25) ∧ T4 (T2 ((NLs (zrow (Int.toNat (if IntKind.wrap IntKind.i64 ((↑(ByteArray.size s) : Int) + 1) < IntKind.wrap IntKind.i64 ((↑(Lib.countByte (Array.toList (ByteArray.data s)) 46) : Int) + 1) then IntKind.wrap IntKind.i64 ((↑(ByteArray.size s) : Int) + 1) else IntKind.wrap IntKind.i64 ((↑(Lib.countByte (Array.toList (ByteArray.data s)) 46) : Int) + 1))) [vs (ByteArray.mk #[])]) ∧ True) ∧ H (lpC Tryz.prog 86 11) (lpK Tryz.prog 86 11) (stV [(0, some (vs s)), (1, some (vs dot)), (2, some (vi 0)), (3, some (vi (IntKind.wrap IntKind.i64 ((if IntKind.wrap IntKind.i64 ((↑(ByteArray.size s) : Int) + 1) < IntKind.wrap IntKind.i64 ((↑(Lib.countByte (Array.toList (ByteArray.data s)) 46) : Int) + 1) then IntKind.wrap IntKind.i64 ((↑(ByteArray.size s) : Int) + 1) else IntKind.wrap IntKind.i64 ((↑(Lib.countByte (Array.toList (ByteArray.data s)) 46) : Int) + 1)) - 1)))), (9, some (Value.slice (some (Addr.mk 0 0 none)) (Int.toNat (if IntKind.wrap IntKind.i64 ((↑(ByteArray.size s) : Int) + 1) < IntKind.wrap IntKind.i64 ((↑(Lib.countByte (Array.toList (ByteArray.data s)) 46) : Int) + 1) then IntKind.wrap IntKind.i64 ((↑(ByteArray.size s) : Int) + 1) else IntKind.wrap IntKind.i64 ((↑(Lib.countByte (Array.toList (ByteArray.data s)) 46) : Int) + 1))) 1)), (10, some (vi 0))] [(0, some (AObj.cells (zrow (Int.toNat (if IntKind.wrap IntKind.i64 ((↑(ByteArray.size s) : Int) + 1) < IntKind.wrap IntKind.i64 ((↑(Lib.countByte (Array.toList (ByteArray.data s)) 46) : Int) + 1) then IntKind.wrap IntKind.i64 ((↑(ByteArray.size s) : Int) + 1) else IntKind.wrap IntKind.i64 ((↑(Lib.countByte (Array.toList (ByteArray.data s)) 46) : Int) + 1))) [vs (ByteArray.mk #[])]) true))] 1)))))) := by kernel_rfl
theorem l_gs (s r : ByteArray) (L : List Value) (N : Nat) (c i : Int) (H : Code → List Fr → AS → Prop) (Post : Value → Prop) : vcLP Tryz.prog callSp 86 [.string s, .string dot, .int .i64 0, .int .i64 (-1)] [(11, [0, 1, 2, 3, 9, 10])] 11 (stV [(0, some (.string r)), (1, some (.string dot)), (2, some (.int .i64 0)), (3, some (.int .i64 c)), (9, some (.slice (some ⟨0, 0, none⟩) N 1)), (10, some (.int .i64 i))] [(0, some (.cells L true))] 1) H Post = (T2 (True ∧ pIf (decide (i < c)) (T8 (T4 (T2 (True ∧ pIf (decide (dot = r)) (T8 (T4 (True ∧ (toI (vi 0) ≤ IntKind.wrap IntKind.i64 (0 + 0) ∧ True ∧ 0 ≤ 0 ∧ 0 ≤ ByteArray.size r) ∧ (0 ≤ i ∧ i < (↑N : Int)) ∧ 0 + Int.toNat i * 1 + 1 ≤ List.length L ∧ T4 (True ∧ (True ∧ toI (vi 0) ≤ IntKind.wrap IntKind.i64 (0 + (↑(ByteArray.size dot) : Int)) ∧ 1 ≤ ByteArray.size r ∧ ByteArray.size r ≤ ByteArray.size r) ∧ T4 (True ∧ (NLs (setFrom L (0 + Int.toNat i * 1) [vs (ByteArray.extract r 0 0)]) ∧ True) ∧ H (lpC Tryz.prog 86 11) (lpK Tryz.prog 86 11) (stV [(0, some (vs (ByteArray.extract r 1 (ByteArray.size r)))), (1, some (vs dot)), (2, some (vi 0)), (3, some (vi c)), (9, some (Value.slice (some (Addr.mk 0 0 none)) N 1)), (10, some (vi (IntKind.wrap IntKind.i64 (i + 1))))] [(0, some (AObj.cells (setFrom L (0 + Int.toNat i * 1) [vs (ByteArray.extract r 0 0)]) true))] 1)))))) (T4 (T2 (True ∧ (toI (vi 0) ≤ 0 ∧ toI (vi 0) < (↑(ByteArray.size dot) : Int)) ∧ toI (vi (↑(UInt8.toNat (Array.getD (ByteArray.data dot) (Int.toNat 0) 0)) : Int)) = 46 ∧ T4 (True ∧ pIf (decide (Lib.indexByte (Array.toList (ByteArray.data r)) 46 < 0)) (T2 (True ∧ (0 ≤ i ∧ i < (↑N : Int)) ∧ 0 + Int.toNat i * 1 + 1 ≤ List.length L ∧ T2 (True ∧ (0 ≤ IntKind.wrap IntKind.i64 (i + 1) ∧ True ∧ 0 ≤ Int.toNat (IntKind.wrap IntKind.i64 (i + 1)) ∧ Int.toNat (IntKind.wrap IntKind.i64 (i + 1)) ≤ N) ∧ True ∧ (0 + (Int.toNat (IntKind.wrap IntKind.i64 (i + 1)) - 0) * 1 ≤ List.length (setFrom L (0 + Int.toNat i * 1) [vs r]) ∧ NLs (List.drop 0 (setFrom L (0 + Int.toNat i * 1) [vs r]))) ∧ Post (tree 1 (Int.toNat (IntKind.wrap IntKind.i64 (i + 1)) - 0) (chunks 1 (Int.toNat (IntKind.wrap IntKind.i64 (i + 1)) - 0) (List.drop 0 (setFrom L (0 + Int.toNat i * 1) [vs r]))))))) (T4 (T2 ((0 ≤ IntKind.wrap IntKind.i64 (Lib.indexByte (Array.toList (ByteArray.data r)) 46 + 0) ∧ True ∧ 0 ≤ Int.toNat (IntKind.wrap IntKind.i64 (Lib.indexByte (Array.toList (ByteArray.data r)) 46 + 0)) ∧ Int.toNat (IntKind.wrap IntKind.i64 (Lib.indexByte (Array.toList (ByteArray.data r)) 46 + 0)) ≤ ByteArray.size r) ∧ (0 ≤ i ∧ i < (↑N : Int)) ∧ 0 + Int.toNat i * 1 + 1 ≤ List.length L ∧ T4 (True ∧ (True ∧ 0 ≤ IntKind.wrap IntKind.i64 (Lib.indexByte (Array.toList (ByteArray.data r)) 46 + (↑1 : Int)) ∧ Int.toNat (IntKind.wrap IntKind.i64 (Lib.indexByte (Array.toList (ByteArray.data r)) 46 + (↑1 : Int))) ≤ ByteArray.size r ∧ ByteArray.size r ≤ ByteArray.size r) ∧ T4 (True ∧ (NLs (setFrom L (0 + Int.toNat i * 1) [vs (ByteArray.extract r 0 (Int.toNat (IntKind.wrap IntKind.i64 (Lib.indexByte (Array.toList (ByteArray.data r)) 46 + 0))))]) ∧ True) ∧ H (lpC Tryz.prog 86 11) (lpK Tryz.prog 86 11) (stV [(0, some (vs (ByteArray.extract r (Int.toNat (IntKind.wrap IntKind.i64 (Lib.indexByte (Array.toList (ByteArray.data r)) 46 + (↑1 : Int)))) (ByteArray.size r)))), (1, some (vs dot)), (2, some (vi 0)), (3, some (vi c)), (9, some (Value.slice (some (Addr.mk 0 0 none)) N 1)), (10, some (vi (IntKind.wrap IntKind.i64 (i + 1))))] [(0, some (AObj.cells (setFrom L (0 + Int.toNat i * 1) [vs (ByteArray.extract r 0 (Int.toNat (IntKind.wrap IntKind.i64 (Lib.indexByte (Array.toList (ByteArray.data r)) 46 + 0))))]) true))] 1)))))))))))))) (T2 (True ∧ (0 ≤ i ∧ i < (↑N : Int)) ∧ 0 + Int.toNat i * 1 + 1 ≤ List.length L ∧ T2 (True ∧ (0 ≤ IntKind.wrap IntKind.i64 (i + 1) ∧ True ∧ 0 ≤ Int.toNat (IntKind.wrap IntKind.i64 (i + 1)) ∧ Int.toNat (IntKind.wrap IntKind.i64 (i + 1)) ≤ N) ∧ True ∧ (0 + (Int.toNat (IntKind.wrap IntKind.i64 (i + 1)) - 0) * 1 ≤ List.length (setFrom L (0 + Int.toNat i * 1) [vs r]) ∧ NLs (List.drop 0 (setFrom L (0 + Int.toNat i * 1) [vs r]))) ∧ Post (tree 1 (Int.toNat (IntKind.wrap IntKind.i64 (i + 1)) - 0) (chunks 1 (Int.toNat (IntKind.wrap IntKind.i64 (i + 1)) - 0) (List.drop 0 (setFrom L (0 + Int.toNat i * 1) [vs r]))))))))) := by kernel_rfl
def splitL : List UInt8 → List (List UInt8)
 | [] => [[]]
 | c :: l => if c = 46 then [] :: splitL l else match splitL l with
  | p :: ps => (c :: p) :: ps
  | [] => [[c]]
def pieces (s : ByteArray) : List ByteArray := (splitL s.data.toList).map fun l => ⟨l.toArray⟩
theorem splitL_none : ∀ {l : List UInt8}, Lib.countByte l 46 = 0 → splitL l = [l]
 | [], _ => rfl
 | c :: l, h => by
  unfold Lib.countByte at h
  rw [List.count_cons] at h
  by_cases hc : c = 46
  ·subst hc; simp at h
  ·have h0 : Lib.countByte l 46 = 0 := by unfold Lib.countByte; omega
   simp only [splitL, hc, if_false, splitL_none h0]
theorem idx_neg : ∀ {l : List UInt8}, Lib.indexByte l 46 < 0 → Lib.countByte l 46 = 0
 | [], _ => rfl
 | c :: l, h => by
  unfold Lib.indexByte at h
  by_cases hc : c = 46
  ·subst hc; simp at h
  ·have hb : (c == 46) = false := by simp [hc]
   rw [hb] at h
   simp only [Bool.false_eq_true, if_false] at h
   have hge := Lib.indexByte_ge l 46
   split at h
   ·rename_i h1
    have ih := idx_neg (l := l) (by rw [beq_iff_eq] at h1; omega)
    unfold Lib.countByte at ih ⊢
    rw [List.count_cons, ih, hb]
    rfl
   ·rename_i h1
    simp only [beq_iff_eq] at h1
    omega
theorem idx_pos : ∀ {l : List UInt8} {m : Nat}, Lib.indexByte l 46 = m → m < l.length ∧ splitL l = l.take m :: splitL (l.drop (m + 1)) ∧ Lib.countByte l 46 = Lib.countByte (l.drop (m + 1)) 46 + 1
 | [], m, h => by simp [Lib.indexByte] at h
 | c :: l, m, h => by
  unfold Lib.indexByte at h
  by_cases hc : c = 46
  ·subst hc
   simp only [beq_self_eq_true, if_true] at h
   obtain rfl : m = 0 := by omega
   refine ⟨by simp, by simp [splitL], ?_⟩
   unfold Lib.countByte
   simp
  ·have hb : (c == 46) = false := by simp [hc]
   rw [hb] at h
   simp only [Bool.false_eq_true, if_false] at h
   split at h
   ·omega
   ·rename_i h1
    simp only [beq_iff_eq] at h1
    have hge := Lib.indexByte_ge l 46
    obtain ⟨k, rfl⟩ : ∃ k, m = k + 1 := ⟨m - 1, by omega⟩
    obtain ⟨i1, i2, i3⟩ := idx_pos (l := l) (m := k) (by omega)
    refine ⟨by simp; omega, ?_, ?_⟩
    ·simp only [splitL, hc, if_false, i2, List.take_succ_cons, List.drop_succ_cons]
    ·unfold Lib.countByte at i3 ⊢
     rw [List.count_cons, hb, List.drop_succ_cons]
     simpa using i3
theorem splitL_len : ∀ l : List UInt8, (splitL l).length = Lib.countByte l 46 + 1
 | [] => rfl
 | c :: l => by
  have ih := splitL_len l
  unfold Lib.countByte at ih ⊢
  rw [List.count_cons]
  by_cases hc : c = 46
  ·subst hc; simp [splitL, ih]
  ·have hb : (c == 46) = false := by simp [hc]
   simp only [splitL, hc, if_false, hb, Bool.false_eq_true, Nat.add_zero]
   split
   ·rename_i p ps hp
    rw [hp] at ih
    simpa using ih
   ·rename_i hp
    rw [hp] at ih
    simp at ih
theorem pieces_none {r : ByteArray} (h : Lib.countByte r.data.toList 46 = 0) : pieces r = [r] := by
 unfold pieces
 rw [splitL_none h]
 simp
theorem pieces_some {r : ByteArray} {m : Nat} (h : Lib.indexByte r.data.toList 46 = m) : m < r.size ∧ pieces r = r.extract 0 m :: pieces (r.extract (m + 1) r.size) ∧ Lib.countByte r.data.toList 46 = Lib.countByte (r.extract (m + 1) r.size).data.toList 46 + 1 := by
 obtain ⟨h1, h2, h3⟩ := idx_pos h
 have hl : r.data.toList.length = r.size := by rw [Array.length_toList]; rfl
 have e : (r.extract (m + 1) r.size).data.toList = r.data.toList.drop (m + 1) := by rw [ext_list, List.take_of_length_le (by rw [List.length_drop, hl]; omega)]
 refine ⟨by omega, ?_, by rw [e]; exact h3⟩
 unfold pieces
 rw [e, h2, List.map_cons]
 congr 1
 have : (r.extract 0 m).data.toList = r.data.toList.take m := by rw [ext_list, List.drop_zero, Nat.sub_zero]
 rw [← this]
theorem ext_size (s : ByteArray) (a : Nat) : (s.extract a s.size).size = s.size - a := by
 rw [ByteArray.size_extract]; omega
theorem encL_str (l : List ByteArray) : encL l = (l.map Value.string).toArray := rfl
theorem set_take {L : List Value} {k : Nat} {v : Value} (h : k < L.length) : (L.set k v).take (k + 1) = L.take k ++ [v] := by
 rw [List.take_succ_eq_append_getElem (by simpa using h), List.getElem_set_self]
 congr 1
 refine List.ext_getElem? fun i => ?_
 simp only [List.getElem?_take]
 split
 ·rw [List.getElem?_set_ne (by omega)]
 ·rfl
theorem NLs_set {L : List Value} {k : Nat} {v : Value} (h : NLs L) (hv : nl1 v = true) : NLs (L.set k v) := fun u hu => by
 rcases List.mem_or_eq_of_mem_set hu with hu | rfl
 ·exact h u hu
 ·exact hv
def c_gs (args : List Value) (Post : Value → Prop) : Prop := ∃ s : ByteArray, args = [.string s, .string dot, .int .i64 0, .int .i64 (-1)] ∧ s.size < 16777216 ∧ Post (tree 1 (pieces s).length (encL (pieces s)))
theorem ok_gs : EntOk Tryz.prog ⟨86, c_gs⟩ := by
 rintro args Post ⟨s, rfl, hs, h⟩
 refine pure_P (vc := callSp) callSp_ok mixed (by kernel_rfl) (by kernel_rfl) _ (e_gs s _ _) ?_
 have hcl : Lib.countByte s.data.toList 46 ≤ s.size := by
  have h1 := List.count_le_length (a := (46 : UInt8)) (l := s.data.toList)
  have hl : s.data.toList.length = s.size := by rw [Array.length_toList]; rfl
  unfold Lib.countByte
  omega
 have hlen : (pieces s).length = Lib.countByte s.data.toList 46 + 1 := by unfold pieces; rw [List.length_map, splitL_len]
 have key : ∀ (n k : Nat) (r : ByteArray) (done : List ByteArray) (L : List Value), n + k = Lib.countByte s.data.toList 46 → done.length = k → done ++ pieces r = pieces s → L.length = Lib.countByte s.data.toList 46 + 1 → L.take k = done.map Value.string → NLs L → k + Lib.countByte r.data.toList 46 = Lib.countByte s.data.toList 46 → r.size ≤ s.size →
   OkP 86 [.string s, .string dot, .int .i64 0, .int .i64 (-1)] 11 Post (stV [(0, some (.string r)), (1, some (.string dot)), (2, some (.int .i64 0)), (3, some (.int .i64 (Lib.countByte s.data.toList 46 : Nat))), (9, some (.slice (some ⟨0, 0, none⟩) (Lib.countByte s.data.toList 46 + 1) 1)), (10, some (.int .i64 k))] [(0, some (.cells L true))] 1) := by
  intro n
  induction n with
  | zero =>
   intro k r done L hk hd hp hL ht hn hr hrs
   have hc0 : Lib.countByte r.data.toList 46 = 0 := by omega
   refine ok_P (vc := callSp) callSp_ok mixed _ (l_gs s r L _ _ _ _ _) ?_
   simp only [true_and]
   refine pIf_intro (fun hh => ?_) (fun _ => ?_)
   ·have := of_decide_eq_true hh; omega
   rw [wrapSucc (by omega)]
   have eN : ((k + 1 : Nat) : Int).toNat = k + 1 := by omega
   have ek : (k : Int).toNat = k := by omega
   have eset : setFrom L (0 + (k : Int).toNat * 1) [Value.string r] = L.set k (.string r) := by rw [ek, Nat.zero_add, Nat.mul_one]; rfl
   rw [eset, eN, List.drop_zero, Nat.sub_zero]
   have epc : pieces s = done ++ [r] := by rw [← hp, pieces_none hc0]
   have efin : chunks 1 (k + 1) (L.set k (.string r)) = encL (pieces s) := by
    show ((L.set k (Value.string r)).take (k + 1)).toArray = _
    rw [set_take (by omega), ht, epc, encL_str, List.map_append]
    rfl
   rw [efin]
   have elen : (pieces s).length = k + 1 := by rw [hlen]; omega
   rw [elen] at h
   refine ⟨⟨by omega, by omega⟩, by rw [ek]; omega, ⟨by omega, by omega, by omega⟩, ⟨by rw [List.length_set]; omega, NLs_set hn rfl⟩, ?_⟩
   exact h
  | succ n ih =>
   intro k r done L hk hd hp hL ht hn hr hrs
   refine ok_P (vc := callSp) callSp_ok mixed _ (l_gs s r L _ _ _ _ _) ?_
   simp only [true_and]
   have eN : ((k + 1 : Nat) : Int).toNat = k + 1 := by omega
   have ek : (k : Int).toNat = k := by omega
   refine pIf_intro (fun _ => ?_) (fun hh => ?_)
   case refine_2 => have := of_decide_eq_false hh; omega
   have eset : ∀ v, setFrom L (0 + (k : Int).toNat * 1) [v] = L.set k v := fun v => by rw [ek, Nat.zero_add, Nat.mul_one]; rfl
   simp only [eset]
   rw [wrapSucc (by omega)]
   have step : ∀ m : Nat, Lib.indexByte r.data.toList 46 = m → OkP 86 [.string s, .string dot, .int .i64 0, .int .i64 (-1)] 11 Post (stV [(0, some (.string (r.extract (m + 1) r.size))), (1, some (.string dot)), (2, some (.int .i64 0)), (3, some (.int .i64 (Lib.countByte s.data.toList 46 : Nat))), (9, some (.slice (some ⟨0, 0, none⟩) (Lib.countByte s.data.toList 46 + 1) 1)), (10, some (.int .i64 ((k + 1 : Nat) : Int)))] [(0, some (.cells (L.set k (.string (r.extract 0 m))) true))] 1) := fun m hm => by
    obtain ⟨g1, g2, g3⟩ := pieces_some hm
    refine ih (k + 1) _ (done ++ [r.extract 0 m]) _ (by omega) (by simp [hd]) (by rw [← hp, g2]; simp) (by rw [List.length_set]; exact hL) ?_ (NLs_set hn rfl) (by omega) ?_
    ·rw [set_take (by omega), ht, List.map_append]; rfl
    ·have := ext_size r (m + 1)
     omega
   have hz : (IntKind.i64.wrap (0 + 0)) = 0 := by decide
   refine pIf_intro (fun hh => ?_) (fun hh => ?_)
   ·obtain rfl := of_decide_eq_true hh
    have hm : Lib.indexByte dot.data.toList 46 = ((0 : Nat) : Int) := by decide
    have := step 0 hm
    refine ⟨⟨by decide, by decide, by decide⟩, ⟨by omega, by omega⟩, by rw [ek]; omega, ⟨by decide, by decide, by decide⟩, ⟨NLs_set hn rfl, trivial⟩, this⟩
   ·refine ⟨⟨by decide, by decide⟩, by decide, pIf_intro (fun hm => ?_) (fun hm => ?_)⟩
    ·have h1 := idx_neg (of_decide_eq_true hm)
     omega
    ·have h1 := of_decide_eq_false hm
     obtain ⟨m, hm'⟩ : ∃ m : Nat, Lib.indexByte r.data.toList 46 = m := ⟨(Lib.indexByte r.data.toList 46).toNat, by omega⟩
     obtain ⟨g1, g2, g3⟩ := pieces_some hm'
     have w0 : IntKind.i64.wrap ((m : Int) + 0) = m := by rw [Int.add_zero]; exact wrapNat (by omega)
     have w1 : IntKind.i64.wrap ((m : Int) + 1) = ((m + 1 : Nat) : Int) := wrapSucc (by omega)
     rw [hm', w0]
     rw [w1]
     have em : (m : Int).toNat = m := by omega
     have em1 : ((m + 1 : Nat) : Int).toNat = m + 1 := by omega
     rw [em, em1]
     refine ⟨⟨by omega, by omega, by omega⟩, ⟨by omega, by omega⟩, by rw [ek]; omega, ⟨by omega, by omega, by omega⟩, ⟨NLs_set hn rfl, trivial⟩, step m hm'⟩
 have e1 : (if IntKind.i64.wrap ((s.size : Int) + 1) < IntKind.i64.wrap (((Lib.countByte s.data.toList 46 : Nat) : Int) + 1) then IntKind.i64.wrap ((s.size : Int) + 1) else IntKind.i64.wrap (((Lib.countByte s.data.toList 46 : Nat) : Int) + 1)) = ((Lib.countByte s.data.toList 46 + 1 : Nat) : Int) := by
  rw [wrap64 (by omega) (by omega), wrap64 (by omega) (by omega)]
  split <;> omega
 simp only [true_and]
 rw [e1]
 have e2 : ((Lib.countByte s.data.toList 46 + 1 : Nat) : Int).toNat = Lib.countByte s.data.toList 46 + 1 := by omega
 have e3 : IntKind.i64.wrap (((Lib.countByte s.data.toList 46 + 1 : Nat) : Int) - 1) = ((Lib.countByte s.data.toList 46 : Nat) : Int) := by
  rw [wrap64 (by omega) (by omega)]; omega
 rw [e2, e3]
 have hzl : (zrow (Lib.countByte s.data.toList 46 + 1) [Value.string ⟨#[]⟩]).length = Lib.countByte s.data.toList 46 + 1 := by rw [zrow_len]; simp
 have hnl : NLs (zrow (Lib.countByte s.data.toList 46 + 1) [Value.string ⟨#[]⟩]) := fun v hv => by
  obtain ⟨i, hi, rfl⟩ := List.mem_iff_getElem.1 hv
  have := zrow_get (List.getElem?_eq_getElem hi)
  rw [show i % [Value.string ⟨#[]⟩].length = 0 from Nat.mod_one i] at this
  simp only [List.getElem?_cons_zero, Option.some.injEq] at this
  rw [← this]
  rfl
 refine ⟨⟨by omega, by omega, by omega⟩, ⟨hnl, trivial⟩, ?_⟩
 exact key _ 0 s [] _ (Nat.add_zero _) rfl rfl hzl rfl hnl (Nat.zero_add _) (Nat.le_refl _)
end Go.Proofs.YtegjnjmimfgijaaGreatDoor

noncomputable section
namespace Go.Proofs.YtegjnjmimfgijaaGreatDoor
open Go Go.RowKit
set_option maxRecDepth 100000
theorem e_isName (s : ByteArray) (H : Code → List Fr → AS → Prop) (Post : Value → Prop) : vcP Tryz.prog noCall 46 [(4, [0, 15])] [.string s] H Post = (T2 (True ∧ pIf (decide (s = ByteArray.mk #[])) (T4 (Post (vb false))) (T4 (pIf (decide ((↑(ByteArray.size s) : Int) > 16)) (T2 (True ∧ Post (vb false))) (T4 ((True ∧ True) ∧ H (lpC Tryz.prog 46 4) (lpK Tryz.prog 46 4) (stV [(0, some (vs s)), (15, some (pt 0))] [(0, some (AObj.iter s 0))] 1))))))) := by kernel_rfl
theorem l_isName (s : ByteArray) (p : Nat) (H : Code → List Fr → AS → Prop) (Post : Value → Prop) : vcLP Tryz.prog noCall 46 [.string s] [(4, [0, 15])] 4 (stV [(0, some (.string s)), (15, some (.pointer (some ⟨0, 0, none⟩)))] [(0, some (.iter s p))] 1) H Post = (pIf (decide (p < ByteArray.size s)) (T4 (T2 (True ∧ pIf (decide ((↑(Prod.fst (Utf8.decode s p)) : Int) ≥ 65)) (T2 (True ∧ pIf (decide ((↑(Prod.fst (Utf8.decode s p)) : Int) ≤ 90)) (T4 (T2 (pIf (decide ((↑(Prod.fst (Utf8.decode s p)) : Int) ≥ 48)) (T2 (True ∧ pIf (decide ((↑(Prod.fst (Utf8.decode s p)) : Int) ≤ 57)) (T8 (T2 (True ∧ (True ∧ True) ∧ H (lpC Tryz.prog 46 4) (lpK Tryz.prog 46 4) (stV [(0, some (vs s)), (15, some (pt 0))] [(0, some (AObj.iter s (p + Prod.snd (Utf8.decode s p))))] 1)))) (T4 (pIf (decide ((↑(Prod.fst (Utf8.decode s p)) : Int) = 95)) (T8 (True ∧ (True ∧ True) ∧ H (lpC Tryz.prog 46 4) (lpK Tryz.prog 46 4) (stV [(0, some (vs s)), (15, some (pt 0))] [(0, some (AObj.iter s (p + Prod.snd (Utf8.decode s p))))] 1))) (T4 (pIf (decide ((↑(Prod.fst (Utf8.decode s p)) : Int) = 45)) (T4 (T2 (True ∧ (True ∧ True) ∧ H (lpC Tryz.prog 46 4) (lpK Tryz.prog 46 4) (stV [(0, some (vs s)), (15, some (pt 0))] [(0, some (AObj.iter s (p + Prod.snd (Utf8.decode s p))))] 1)))) (T4 (T2 (True ∧ (True ∧ True) ∧ H (lpC Tryz.prog 46 4) (lpK Tryz.prog 46 4) (stV [(0, some (vs s)), (15, some (pt 0))] [(0, some (AObj.iter s (p + Prod.snd (Utf8.decode s p))))] 1)))))))))) (T4 (True ∧ pIf (decide ((↑(Prod.fst (Utf8.decode s p)) : Int) = 95)) (T8 (True ∧ (True ∧ True) ∧ H (lpC Tryz.prog 46 4) (lpK Tryz.prog 46 4) (stV [(0, some (vs s)), (15, some (pt 0))] [(0, some (AObj.iter s (p + Prod.snd (Utf8.decode s p))))] 1))) (T4 (pIf (decide ((↑(Prod.fst (Utf8.decode s p)) : Int) = 45)) (T4 (T2 (True ∧ (True ∧ True) ∧ H (lpC Tryz.prog 46 4) (lpK Tryz.prog 46 4) (stV [(0, some (vs s)), (15, some (pt 0))] [(0, some (AObj.iter s (p + Prod.snd (Utf8.decode s p))))] 1)))) (T4 (T2 (True ∧ (True ∧ True) ∧ H (lpC Tryz.prog 46 4) (lpK Tryz.prog 46 4) (stV [(0, some (vs s)), (15, some (pt 0))] [(0, some (AObj.iter s (p + Prod.snd (Utf8.decode s p))))] 1))))))))))) (T4 (pIf (decide ((↑(Prod.fst (Utf8.decode s p)) : Int) ≥ 97)) (T2 (True ∧ pIf (decide ((↑(Prod.fst (Utf8.decode s p)) : Int) ≤ 122)) (T4 (True ∧ pIf (decide ((↑(Prod.fst (Utf8.decode s p)) : Int) ≥ 48)) (T2 (True ∧ pIf (decide ((↑(Prod.fst (Utf8.decode s p)) : Int) ≤ 57)) (T8 (T2 (True ∧ (True ∧ True) ∧ H (lpC Tryz.prog 46 4) (lpK Tryz.prog 46 4) (stV [(0, some (vs s)), (15, some (pt 0))] [(0, some (AObj.iter s (p + Prod.snd (Utf8.decode s p))))] 1)))) (T4 (pIf (decide ((↑(Prod.fst (Utf8.decode s p)) : Int) = 95)) (T8 (True ∧ (True ∧ True) ∧ H (lpC Tryz.prog 46 4) (lpK Tryz.prog 46 4) (stV [(0, some (vs s)), (15, some (pt 0))] [(0, some (AObj.iter s (p + Prod.snd (Utf8.decode s p))))] 1))) (T4 (pIf (decide ((↑(Prod.fst (Utf8.decode s p)) : Int) = 45)) (T4 (T2 (True ∧ (True ∧ True) ∧ H (lpC Tryz.prog 46 4) (lpK Tryz.prog 46 4) (stV [(0, some (vs s)), (15, some (pt 0))] [(0, some (AObj.iter s (p + Prod.snd (Utf8.decode s p))))] 1)))) (T4 (T2 (True ∧ (True ∧ True) ∧ H (lpC Tryz.prog 46 4) (lpK Tryz.prog 46 4) (stV [(0, some (vs s)), (15, some (pt 0))] [(0, some (AObj.iter s (p + Prod.snd (Utf8.decode s p))))] 1)))))))))) (T4 (True ∧ pIf (decide ((↑(Prod.fst (Utf8.decode s p)) : Int) = 95)) (T8 (True ∧ (True ∧ True) ∧ H (lpC Tryz.prog 46 4) (lpK Tryz.prog 46 4) (stV [(0, some (vs s)), (15, some (pt 0))] [(0, some (AObj.iter s (p + Prod.snd (Utf8.decode s p))))] 1))) (T4 (pIf (decide ((↑(Prod.fst (Utf8.decode s p)) : Int) = 45)) (T4 (T2 (True ∧ (True ∧ True) ∧ H (lpC Tryz.prog 46 4) (lpK Tryz.prog 46 4) (stV [(0, some (vs s)), (15, some (pt 0))] [(0, some (AObj.iter s (p + Prod.snd (Utf8.decode s p))))] 1)))) (T4 (T2 (True ∧ (True ∧ True) ∧ H (lpC Tryz.prog 46 4) (lpK Tryz.prog 46 4) (stV [(0, some (vs s)), (15, some (pt 0))] [(0, some (AObj.iter s (p + Prod.snd (Utf8.decode s p))))] 1)))))))))) (T4 (True ∧ pIf (decide ((↑(Prod.fst (Utf8.decode s p)) : Int) ≥ 48)) (T2 (True ∧ pIf (decide ((↑(Prod.fst (Utf8.decode s p)) : Int) ≤ 57)) (T8 (T2 (True ∧ pIf (decide ((↑p : Int) = 0)) (T4 (True ∧ Post (vb false))) (T4 (T2 ((True ∧ True) ∧ H (lpC Tryz.prog 46 4) (lpK Tryz.prog 46 4) (stV [(0, some (vs s)), (15, some (pt 0))] [(0, some (AObj.iter s (p + Prod.snd (Utf8.decode s p))))] 1))))))) (T4 (pIf (decide ((↑(Prod.fst (Utf8.decode s p)) : Int) = 95)) (T8 (True ∧ pIf (decide ((↑p : Int) = 0)) (T4 (True ∧ Post (vb false))) (T4 (T2 ((True ∧ True) ∧ H (lpC Tryz.prog 46 4) (lpK Tryz.prog 46 4) (stV [(0, some (vs s)), (15, some (pt 0))] [(0, some (AObj.iter s (p + Prod.snd (Utf8.decode s p))))] 1)))))) (T4 (pIf (decide ((↑(Prod.fst (Utf8.decode s p)) : Int) = 45)) (T4 (T2 (True ∧ pIf (decide ((↑p : Int) = 0)) (T4 (True ∧ Post (vb false))) (T4 (T2 ((True ∧ True) ∧ H (lpC Tryz.prog 46 4) (lpK Tryz.prog 46 4) (stV [(0, some (vs s)), (15, some (pt 0))] [(0, some (AObj.iter s (p + Prod.snd (Utf8.decode s p))))] 1))))))) (T4 (T2 (True ∧ pIf (decide ((↑p : Int) = 0)) (T4 (True ∧ Post (vb false))) (T4 (T2 (True ∧ Post (vb false))))))))))))) (T4 (True ∧ pIf (decide ((↑(Prod.fst (Utf8.decode s p)) : Int) = 95)) (T8 (True ∧ pIf (decide ((↑p : Int) = 0)) (T4 (True ∧ Post (vb false))) (T4 (T2 ((True ∧ True) ∧ H (lpC Tryz.prog 46 4) (lpK Tryz.prog 46 4) (stV [(0, some (vs s)), (15, some (pt 0))] [(0, some (AObj.iter s (p + Prod.snd (Utf8.decode s p))))] 1)))))) (T4 (pIf (decide ((↑(Prod.fst (Utf8.decode s p)) : Int) = 45)) (T4 (T2 (True ∧ pIf (decide ((↑p : Int) = 0)) (T4 (True ∧ Post (vb false))) (T4 (T2 ((True ∧ True) ∧ H (lpC Tryz.prog 46 4) (lpK Tryz.prog 46 4) (stV [(0, some (vs s)), (15, some (pt 0))] [(0, some (AObj.iter s (p + Prod.snd (Utf8.decode s p))))] 1))))))) (T4 (T2 (True ∧ pIf (decide ((↑p : Int) = 0)) (T4 (True ∧ Post (vb false))) (T4 (T2 (True ∧ Post (vb false))))))))))))))) (T4 (T2 (pIf (decide ((↑(Prod.fst (Utf8.decode s p)) : Int) ≥ 48)) (T2 (True ∧ pIf (decide ((↑(Prod.fst (Utf8.decode s p)) : Int) ≤ 57)) (T8 (T2 (True ∧ pIf (decide ((↑p : Int) = 0)) (T4 (True ∧ Post (vb false))) (T4 (T2 ((True ∧ True) ∧ H (lpC Tryz.prog 46 4) (lpK Tryz.prog 46 4) (stV [(0, some (vs s)), (15, some (pt 0))] [(0, some (AObj.iter s (p + Prod.snd (Utf8.decode s p))))] 1))))))) (T4 (pIf (decide ((↑(Prod.fst (Utf8.decode s p)) : Int) = 95)) (T8 (True ∧ pIf (decide ((↑p : Int) = 0)) (T4 (True ∧ Post (vb false))) (T4 (T2 ((True ∧ True) ∧ H (lpC Tryz.prog 46 4) (lpK Tryz.prog 46 4) (stV [(0, some (vs s)), (15, some (pt 0))] [(0, some (AObj.iter s (p + Prod.snd (Utf8.decode s p))))] 1)))))) (T4 (pIf (decide ((↑(Prod.fst (Utf8.decode s p)) : Int) = 45)) (T4 (T2 (True ∧ pIf (decide ((↑p : Int) = 0)) (T4 (True ∧ Post (vb false))) (T4 (T2 ((True ∧ True) ∧ H (lpC Tryz.prog 46 4) (lpK Tryz.prog 46 4) (stV [(0, some (vs s)), (15, some (pt 0))] [(0, some (AObj.iter s (p + Prod.snd (Utf8.decode s p))))] 1))))))) (T4 (T2 (True ∧ pIf (decide ((↑p : Int) = 0)) (T4 (True ∧ Post (vb false))) (T4 (T2 (True ∧ Post (vb false))))))))))))) (T4 (True ∧ pIf (decide ((↑(Prod.fst (Utf8.decode s p)) : Int) = 95)) (T8 (True ∧ pIf (decide ((↑p : Int) = 0)) (T4 (True ∧ Post (vb false))) (T4 (T2 ((True ∧ True) ∧ H (lpC Tryz.prog 46 4) (lpK Tryz.prog 46 4) (stV [(0, some (vs s)), (15, some (pt 0))] [(0, some (AObj.iter s (p + Prod.snd (Utf8.decode s p))))] 1)))))) (T4 (pIf (decide ((↑(Prod.fst (Utf8.decode s p)) : Int) = 45)) (T4 (T2 (True ∧ pIf (decide ((↑p : Int) = 0)) (T4 (True ∧ Post (vb false))) (T4 (T2 ((True ∧ True) ∧ H (lpC Tryz.prog 46 4) (lpK Tryz.prog 46 4) (stV [(0, some (vs s)), (15, some (pt 0))] [(0, some (AObj.iter s (p + Prod.snd (Utf8.decode s p))))] 1))))))) (T4 (T2 (True ∧ pIf (decide ((↑p : Int) = 0)) (T4 (True ∧ Post (vb false))) (T4 (T2 (True ∧ Post (vb false)))))))))))))))))) (T4 (True ∧ pIf (decide ((↑(Prod.fst (Utf8.decode s p)) : Int) ≥ 97)) (T2 (True ∧ pIf (decide ((↑(Prod.fst (Utf8.decode s p)) : Int) ≤ 122)) (T4 (True ∧ pIf (decide ((↑(Prod.fst (Utf8.decode s p)) : Int) ≥ 48)) (T2 (True ∧ pIf (decide ((↑(Prod.fst (Utf8.decode s p)) : Int) ≤ 57)) (T8 (T2 (True ∧ (True ∧ True) ∧ H (lpC Tryz.prog 46 4) (lpK Tryz.prog 46 4) (stV [(0, some (vs s)), (15, some (pt 0))] [(0, some (AObj.iter s (p + Prod.snd (Utf8.decode s p))))] 1)))) (T4 (pIf (decide ((↑(Prod.fst (Utf8.decode s p)) : Int) = 95)) (T8 (True ∧ (True ∧ True) ∧ H (lpC Tryz.prog 46 4) (lpK Tryz.prog 46 4) (stV [(0, some (vs s)), (15, some (pt 0))] [(0, some (AObj.iter s (p + Prod.snd (Utf8.decode s p))))] 1))) (T4 (pIf (decide ((↑(Prod.fst (Utf8.decode s p)) : Int) = 45)) (T4 (T2 (True ∧ (True ∧ True) ∧ H (lpC Tryz.prog 46 4) (lpK Tryz.prog 46 4) (stV [(0, some (vs s)), (15, some (pt 0))] [(0, some (AObj.iter s (p + Prod.snd (Utf8.decode s p))))] 1)))) (T4 (T2 (True ∧ (True ∧ True) ∧ H (lpC Tryz.prog 46 4) (lpK Tryz.prog 46 4) (stV [(0, some (vs s)), (15, some (pt 0))] [(0, some (AObj.iter s (p + Prod.snd (Utf8.decode s p))))] 1)))))))))) (T4 (True ∧ pIf (decide ((↑(Prod.fst (Utf8.decode s p)) : Int) = 95)) (T8 (True ∧ (True ∧ True) ∧ H (lpC Tryz.prog 46 4) (lpK Tryz.prog 46 4) (stV [(0, some (vs s)), (15, some (pt 0))] [(0, some (AObj.iter s (p + Prod.snd (Utf8.decode s p))))] 1))) (T4 (pIf (decide ((↑(Prod.fst (Utf8.decode s p)) : Int) = 45)) (T4 (T2 (True ∧ (True ∧ True) ∧ H (lpC Tryz.prog 46 4) (lpK Tryz.prog 46 4) (stV [(0, some (vs s)), (15, some (pt 0))] [(0, some (AObj.iter s (p + Prod.snd (Utf8.decode s p))))] 1)))) (T4 (T2 (True ∧ (True ∧ True) ∧ H (lpC Tryz.prog 46 4) (lpK Tryz.prog 46 4) (stV [(0, some (vs s)), (15, some (pt 0))] [(0, some (AObj.iter s (p + Prod.snd (Utf8.decode s p))))] 1)))))))))) (T4 (True ∧ pIf (decide ((↑(Prod.fst (Utf8.decode s p)) : Int) ≥ 48)) (T2 (True ∧ pIf (decide ((↑(Prod.fst (Utf8.decode s p)) : Int) ≤ 57)) (T8 (T2 (True ∧ pIf (decide ((↑p : Int) = 0)) (T4 (True ∧ Post (vb false))) (T4 (T2 ((True ∧ True) ∧ H (lpC Tryz.prog 46 4) (lpK Tryz.prog 46 4) (stV [(0, some (vs s)), (15, some (pt 0))] [(0, some (AObj.iter s (p + Prod.snd (Utf8.decode s p))))] 1))))))) (T4 (pIf (decide ((↑(Prod.fst (Utf8.decode s p)) : Int) = 95)) (T8 (True ∧ pIf (decide ((↑p : Int) = 0)) (T4 (True ∧ Post (vb false))) (T4 (T2 ((True ∧ True) ∧ H (lpC Tryz.prog 46 4) (lpK Tryz.prog 46 4) (stV [(0, some (vs s)), (15, some (pt 0))] [(0, some (AObj.iter s (p + Prod.snd (Utf8.decode s p))))] 1)))))) (T4 (pIf (decide ((↑(Prod.fst (Utf8.decode s p)) : Int) = 45)) (T4 (T2 (True ∧ pIf (decide ((↑p : Int) = 0)) (T4 (True ∧ Post (vb false))) (T4 (T2 ((True ∧ True) ∧ H (lpC Tryz.prog 46 4) (lpK Tryz.prog 46 4) (stV [(0, some (vs s)), (15, some (pt 0))] [(0, some (AObj.iter s (p + Prod.snd (Utf8.decode s p))))] 1))))))) (T4 (T2 (True ∧ pIf (decide ((↑p : Int) = 0)) (T4 (True ∧ Post (vb false))) (T4 (T2 (True ∧ Post (vb false))))))))))))) (T4 (True ∧ pIf (decide ((↑(Prod.fst (Utf8.decode s p)) : Int) = 95)) (T8 (True ∧ pIf (decide ((↑p : Int) = 0)) (T4 (True ∧ Post (vb false))) (T4 (T2 ((True ∧ True) ∧ H (lpC Tryz.prog 46 4) (lpK Tryz.prog 46 4) (stV [(0, some (vs s)), (15, some (pt 0))] [(0, some (AObj.iter s (p + Prod.snd (Utf8.decode s p))))] 1)))))) (T4 (pIf (decide ((↑(Prod.fst (Utf8.decode s p)) : Int) = 45)) (T4 (T2 (True ∧ pIf (decide ((↑p : Int) = 0)) (T4 (True ∧ Post (vb false))) (T4 (T2 ((True ∧ True) ∧ H (lpC Tryz.prog 46 4) (lpK Tryz.prog 46 4) (stV [(0, some (vs s)), (15, some (pt 0))] [(0, some (AObj.iter s (p + Prod.snd (Utf8.decode s p))))] 1))))))) (T4 (T2 (True ∧ pIf (decide ((↑p : Int) = 0)) (T4 (True ∧ Post (vb false))) (T4 (T2 (True ∧ Post (vb false))))))))))))))) (T4 (T2 (pIf (decide ((↑(Prod.fst (Utf8.decode s p)) : Int) ≥ 48)) (T2 (True ∧ pIf (decide ((↑(Prod.fst (Utf8.decode s p)) : Int) ≤ 57)) (T8 (T2 (True ∧ pIf (decide ((↑p : Int) = 0)) (T4 (True ∧ Post (vb false))) (T4 (T2 ((True ∧ True) ∧ H (lpC Tryz.prog 46 4) (lpK Tryz.prog 46 4) (stV [(0, some (vs s)), (15, some (pt 0))] [(0, some (AObj.iter s (p + Prod.snd (Utf8.decode s p))))] 1))))))) (T4 (pIf (decide ((↑(Prod.fst (Utf8.decode s p)) : Int) = 95)) (T8 (True ∧ pIf (decide ((↑p : Int) = 0)) (T4 (True ∧ Post (vb false))) (T4 (T2 ((True ∧ True) ∧ H (lpC Tryz.prog 46 4) (lpK Tryz.prog 46 4) (stV [(0, some (vs s)), (15, some (pt 0))] [(0, some (AObj.iter s (p + Prod.snd (Utf8.decode s p))))] 1)))))) (T4 (pIf (decide ((↑(Prod.fst (Utf8.decode s p)) : Int) = 45)) (T4 (T2 (True ∧ pIf (decide ((↑p : Int) = 0)) (T4 (True ∧ Post (vb false))) (T4 (T2 ((True ∧ True) ∧ H (lpC Tryz.prog 46 4) (lpK Tryz.prog 46 4) (stV [(0, some (vs s)), (15, some (pt 0))] [(0, some (AObj.iter s (p + Prod.snd (Utf8.decode s p))))] 1))))))) (T4 (T2 (True ∧ pIf (decide ((↑p : Int) = 0)) (T4 (True ∧ Post (vb false))) (T4 (T2 (True ∧ Post (vb false))))))))))))) (T4 (True ∧ pIf (decide ((↑(Prod.fst (Utf8.decode s p)) : Int) = 95)) (T8 (True ∧ pIf (decide ((↑p : Int) = 0)) (T4 (True ∧ Post (vb false))) (T4 (T2 ((True ∧ True) ∧ H (lpC Tryz.prog 46 4) (lpK Tryz.prog 46 4) (stV [(0, some (vs s)), (15, some (pt 0))] [(0, some (AObj.iter s (p + Prod.snd (Utf8.decode s p))))] 1)))))) (T4 (pIf (decide ((↑(Prod.fst (Utf8.decode s p)) : Int) = 45)) (T4 (T2 (True ∧ pIf (decide ((↑p : Int) = 0)) (T4 (True ∧ Post (vb false))) (T4 (T2 ((True ∧ True) ∧ H (lpC Tryz.prog 46 4) (lpK Tryz.prog 46 4) (stV [(0, some (vs s)), (15, some (pt 0))] [(0, some (AObj.iter s (p + Prod.snd (Utf8.decode s p))))] 1))))))) (T4 (T2 (True ∧ pIf (decide ((↑p : Int) = 0)) (T4 (True ∧ Post (vb false))) (T4 (T2 (True ∧ Post (vb false))))))))))))))))))) (T2 (True ∧ Post (vb true)))) := by kernel_rfl
def callRN : VCall := inlCall Tryz.prog [53, 54] noCall 2
theorem e_rName (s : ByteArray) (H : Code → List Fr → AS → Prop) (Post : Value → Prop) : vcP Tryz.prog callRN 27 [(4, [0, 3])] [.string s] H Post = (T2 (True ∧ pIf (decide (s = ByteArray.mk #[])) (T4 (T2 (Post (vb false)))) (T4 (pIf (decide ((↑(ByteArray.size s) : Int) > 16)) (T4 (True ∧ Post (vb false))) (T2 (True ∧ (toI (vi 0) ≤ 0 ∧ 0 < (↑(ByteArray.size s) : Int)) ∧ T2 (True ∧ pIf (decide ((↑(UInt8.toNat (Array.getD (ByteArray.data s) 0 0)) : Int) ≥ 97)) (T2 (True ∧ pIf (decide ((↑(UInt8.toNat (Array.getD (ByteArray.data s) 0 0)) : Int) ≤ 122)) (T8 (True ∧ H (lpC Tryz.prog 27 4) (lpK Tryz.prog 27 4) (stV [(0, some (vs s)), (3, some (vi 0))] [] 0))) (T4 (pIf (decide ((↑(UInt8.toNat (Array.getD (ByteArray.data s) 0 0)) : Int) ≥ 65)) (T2 (True ∧ pIf (decide ((↑(UInt8.toNat (Array.getD (ByteArray.data s) 0 0)) : Int) ≤ 90)) (T8 (H (lpC Tryz.prog 27 4) (lpK Tryz.prog 27 4) (stV [(0, some (vs s)), (3, some (vi 0))] [] 0))) (T4 (T2 (True ∧ Post (vb false)))))) (T8 (Post (vb false))))))) (T4 (True ∧ pIf (decide ((↑(UInt8.toNat (Array.getD (ByteArray.data s) 0 0)) : Int) ≥ 65)) (T2 (True ∧ pIf (decide ((↑(UInt8.toNat (Array.getD (ByteArray.data s) 0 0)) : Int) ≤ 90)) (T8 (H (lpC Tryz.prog 27 4) (lpK Tryz.prog 27 4) (stV [(0, some (vs s)), (3, some (vi 0))] [] 0))) (T4 (T2 (True ∧ Post (vb false)))))) (T8 (Post (vb false)))))))))))) := by kernel_rfl
theorem l_rName (s : ByteArray) (i : Int) (H : Code → List Fr → AS → Prop) (Post : Value → Prop) : vcLP Tryz.prog callRN 27 [.string s] [(4, [0, 3])] 4 (stV [(0, some (.string s)), (3, some (.int .i64 i))] [] 0) H Post = (T4 (pIf (decide (i < (↑(ByteArray.size s) : Int))) (T2 ((0 ≤ i ∧ i < (↑(ByteArray.size s) : Int)) ∧ T2 (True ∧ pIf (decide ((↑(UInt8.toNat (Array.getD (ByteArray.data s) (Int.toNat i) 0)) : Int) ≥ 97)) (T2 (True ∧ pIf (decide ((↑(UInt8.toNat (Array.getD (ByteArray.data s) (Int.toNat i) 0)) : Int) ≤ 122)) (T16 (H (lpC Tryz.prog 27 4) (lpK Tryz.prog 27 4) (stV [(0, some (vs s)), (3, some (vi (IntKind.wrap IntKind.i64 (i + 1))))] [] 0))) (T4 (pIf (decide ((↑(UInt8.toNat (Array.getD (ByteArray.data s) (Int.toNat i) 0)) : Int) ≥ 65)) (T2 (True ∧ pIf (decide ((↑(UInt8.toNat (Array.getD (ByteArray.data s) (Int.toNat i) 0)) : Int) ≤ 90)) (T8 (T4 (T2 (True ∧ H (lpC Tryz.prog 27 4) (lpK Tryz.prog 27 4) (stV [(0, some (vs s)), (3, some (vi (IntKind.wrap IntKind.i64 (i + 1))))] [] 0))))) (T4 (T2 (True ∧ (0 ≤ i ∧ i < (↑(ByteArray.size s) : Int)) ∧ T2 (True ∧ pIf (decide ((↑(UInt8.toNat (Array.getD (ByteArray.data s) (Int.toNat i) 0)) : Int) ≥ 48)) (T2 (True ∧ pIf (decide ((↑(UInt8.toNat (Array.getD (ByteArray.data s) (Int.toNat i) 0)) : Int) ≤ 57)) (T8 (T4 (True ∧ H (lpC Tryz.prog 27 4) (lpK Tryz.prog 27 4) (stV [(0, some (vs s)), (3, some (vi (IntKind.wrap IntKind.i64 (i + 1))))] [] 0)))) (T4 (T2 (True ∧ (0 ≤ i ∧ i < (↑(ByteArray.size s) : Int)) ∧ True ∧ pIf (!decide ((↑(UInt8.toNat (Array.getD (ByteArray.data s) (Int.toNat i) 0)) : Int) = 95)) (T4 ((0 ≤ i ∧ i < (↑(ByteArray.size s) : Int)) ∧ True ∧ pIf (!decide ((↑(UInt8.toNat (Array.getD (ByteArray.data s) (Int.toNat i) 0)) : Int) = 45)) (T2 (True ∧ Post (vb false))) (T4 (T2 (H (lpC Tryz.prog 27 4) (lpK Tryz.prog 27 4) (stV [(0, some (vs s)), (3, some (vi (IntKind.wrap IntKind.i64 (i + 1))))] [] 0)))))) (T8 (H (lpC Tryz.prog 27 4) (lpK Tryz.prog 27 4) (stV [(0, some (vs s)), (3, some (vi (IntKind.wrap IntKind.i64 (i + 1))))] [] 0)))))))) (T8 ((0 ≤ i ∧ i < (↑(ByteArray.size s) : Int)) ∧ True ∧ pIf (!decide ((↑(UInt8.toNat (Array.getD (ByteArray.data s) (Int.toNat i) 0)) : Int) = 95)) (T4 ((0 ≤ i ∧ i < (↑(ByteArray.size s) : Int)) ∧ True ∧ pIf (!decide ((↑(UInt8.toNat (Array.getD (ByteArray.data s) (Int.toNat i) 0)) : Int) = 45)) (T2 (True ∧ Post (vb false))) (T4 (T2 (H (lpC Tryz.prog 27 4) (lpK Tryz.prog 27 4) (stV [(0, some (vs s)), (3, some (vi (IntKind.wrap IntKind.i64 (i + 1))))] [] 0)))))) (T8 (H (lpC Tryz.prog 27 4) (lpK Tryz.prog 27 4) (stV [(0, some (vs s)), (3, some (vi (IntKind.wrap IntKind.i64 (i + 1))))] [] 0))))))))))) (T8 ((0 ≤ i ∧ i < (↑(ByteArray.size s) : Int)) ∧ T2 (True ∧ pIf (decide ((↑(UInt8.toNat (Array.getD (ByteArray.data s) (Int.toNat i) 0)) : Int) ≥ 48)) (T2 (True ∧ pIf (decide ((↑(UInt8.toNat (Array.getD (ByteArray.data s) (Int.toNat i) 0)) : Int) ≤ 57)) (T8 (T4 (True ∧ H (lpC Tryz.prog 27 4) (lpK Tryz.prog 27 4) (stV [(0, some (vs s)), (3, some (vi (IntKind.wrap IntKind.i64 (i + 1))))] [] 0)))) (T4 (T2 (True ∧ (0 ≤ i ∧ i < (↑(ByteArray.size s) : Int)) ∧ True ∧ pIf (!decide ((↑(UInt8.toNat (Array.getD (ByteArray.data s) (Int.toNat i) 0)) : Int) = 95)) (T4 ((0 ≤ i ∧ i < (↑(ByteArray.size s) : Int)) ∧ True ∧ pIf (!decide ((↑(UInt8.toNat (Array.getD (ByteArray.data s) (Int.toNat i) 0)) : Int) = 45)) (T2 (True ∧ Post (vb false))) (T4 (T2 (H (lpC Tryz.prog 27 4) (lpK Tryz.prog 27 4) (stV [(0, some (vs s)), (3, some (vi (IntKind.wrap IntKind.i64 (i + 1))))] [] 0)))))) (T8 (H (lpC Tryz.prog 27 4) (lpK Tryz.prog 27 4) (stV [(0, some (vs s)), (3, some (vi (IntKind.wrap IntKind.i64 (i + 1))))] [] 0)))))))) (T8 ((0 ≤ i ∧ i < (↑(ByteArray.size s) : Int)) ∧ True ∧ pIf (!decide ((↑(UInt8.toNat (Array.getD (ByteArray.data s) (Int.toNat i) 0)) : Int) = 95)) (T4 ((0 ≤ i ∧ i < (↑(ByteArray.size s) : Int)) ∧ True ∧ pIf (!decide ((↑(UInt8.toNat (Array.getD (ByteArray.data s) (Int.toNat i) 0)) : Int) = 45)) (T2 (True ∧ Post (vb false))) (T4 (T2 (H (lpC Tryz.prog 27 4) (lpK Tryz.prog 27 4) (stV [(0, some (vs s)), (3, some (vi (IntKind.wrap IntKind.i64 (i + 1))))] [] 0)))))) (T8 (H (lpC Tryz.prog 27 4) (lpK Tryz.prog 27 4) (stV [(0, some (vs s)), (3, some (vi (IntKind.wrap IntKind.i64 (i + 1))))] [] 0)))))))))))) (T4 (True ∧ pIf (decide ((↑(UInt8.toNat (Array.getD (ByteArray.data s) (Int.toNat i) 0)) : Int) ≥ 65)) (T2 (True ∧ pIf (decide ((↑(UInt8.toNat (Array.getD (ByteArray.data s) (Int.toNat i) 0)) : Int) ≤ 90)) (T8 (T4 (T2 (True ∧ H (lpC Tryz.prog 27 4) (lpK Tryz.prog 27 4) (stV [(0, some (vs s)), (3, some (vi (IntKind.wrap IntKind.i64 (i + 1))))] [] 0))))) (T4 (T2 (True ∧ (0 ≤ i ∧ i < (↑(ByteArray.size s) : Int)) ∧ T2 (True ∧ pIf (decide ((↑(UInt8.toNat (Array.getD (ByteArray.data s) (Int.toNat i) 0)) : Int) ≥ 48)) (T2 (True ∧ pIf (decide ((↑(UInt8.toNat (Array.getD (ByteArray.data s) (Int.toNat i) 0)) : Int) ≤ 57)) (T8 (T4 (True ∧ H (lpC Tryz.prog 27 4) (lpK Tryz.prog 27 4) (stV [(0, some (vs s)), (3, some (vi (IntKind.wrap IntKind.i64 (i + 1))))] [] 0)))) (T4 (T2 (True ∧ (0 ≤ i ∧ i < (↑(ByteArray.size s) : Int)) ∧ True ∧ pIf (!decide ((↑(UInt8.toNat (Array.getD (ByteArray.data s) (Int.toNat i) 0)) : Int) = 95)) (T4 ((0 ≤ i ∧ i < (↑(ByteArray.size s) : Int)) ∧ True ∧ pIf (!decide ((↑(UInt8.toNat (Array.getD (ByteArray.data s) (Int.toNat i) 0)) : Int) = 45)) (T2 (True ∧ Post (vb false))) (T4 (T2 (H (lpC Tryz.prog 27 4) (lpK Tryz.prog 27 4) (stV [(0, some (vs s)), (3, some (vi (IntKind.wrap IntKind.i64 (i + 1))))] [] 0)))))) (T8 (H (lpC Tryz.prog 27 4) (lpK Tryz.prog 27 4) (stV [(0, some (vs s)), (3, some (vi (IntKind.wrap IntKind.i64 (i + 1))))] [] 0)))))))) (T8 ((0 ≤ i ∧ i < (↑(ByteArray.size s) : Int)) ∧ True ∧ pIf (!decide ((↑(UInt8.toNat (Array.getD (ByteArray.data s) (Int.toNat i) 0)) : Int) = 95)) (T4 ((0 ≤ i ∧ i < (↑(ByteArray.size s) : Int)) ∧ True ∧ pIf (!decide ((↑(UInt8.toNat (Array.getD (ByteArray.data s) (Int.toNat i) 0)) : Int) = 45)) (T2 (True ∧ Post (vb false))) (T4 (T2 (H (lpC Tryz.prog 27 4) (lpK Tryz.prog 27 4) (stV [(0, some (vs s)), (3, some (vi (IntKind.wrap IntKind.i64 (i + 1))))] [] 0)))))) (T8 (H (lpC Tryz.prog 27 4) (lpK Tryz.prog 27 4) (stV [(0, some (vs s)), (3, some (vi (IntKind.wrap IntKind.i64 (i + 1))))] [] 0))))))))))) (T8 ((0 ≤ i ∧ i < (↑(ByteArray.size s) : Int)) ∧ T2 (True ∧ pIf (decide ((↑(UInt8.toNat (Array.getD (ByteArray.data s) (Int.toNat i) 0)) : Int) ≥ 48)) (T2 (True ∧ pIf (decide ((↑(UInt8.toNat (Array.getD (ByteArray.data s) (Int.toNat i) 0)) : Int) ≤ 57)) (T8 (T4 (True ∧ H (lpC Tryz.prog 27 4) (lpK Tryz.prog 27 4) (stV [(0, some (vs s)), (3, some (vi (IntKind.wrap IntKind.i64 (i + 1))))] [] 0)))) (T4 (T2 (True ∧ (0 ≤ i ∧ i < (↑(ByteArray.size s) : Int)) ∧ True ∧ pIf (!decide ((↑(UInt8.toNat (Array.getD (ByteArray.data s) (Int.toNat i) 0)) : Int) = 95)) (T4 ((0 ≤ i ∧ i < (↑(ByteArray.size s) : Int)) ∧ True ∧ pIf (!decide ((↑(UInt8.toNat (Array.getD (ByteArray.data s) (Int.toNat i) 0)) : Int) = 45)) (T2 (True ∧ Post (vb false))) (T4 (T2 (H (lpC Tryz.prog 27 4) (lpK Tryz.prog 27 4) (stV [(0, some (vs s)), (3, some (vi (IntKind.wrap IntKind.i64 (i + 1))))] [] 0)))))) (T8 (H (lpC Tryz.prog 27 4) (lpK Tryz.prog 27 4) (stV [(0, some (vs s)), (3, some (vi (IntKind.wrap IntKind.i64 (i + 1))))] [] 0)))))))) (T8 ((0 ≤ i ∧ i < (↑(ByteArray.size s) : Int)) ∧ True ∧ pIf (!decide ((↑(UInt8.toNat (Array.getD (ByteArray.data s) (Int.toNat i) 0)) : Int) = 95)) (T4 ((0 ≤ i ∧ i < (↑(ByteArray.size s) : Int)) ∧ True ∧ pIf (!decide ((↑(UInt8.toNat (Array.getD (ByteArray.data s) (Int.toNat i) 0)) : Int) = 45)) (T2 (True ∧ Post (vb false))) (T4 (T2 (H (lpC Tryz.prog 27 4) (lpK Tryz.prog 27 4) (stV [(0, some (vs s)), (3, some (vi (IntKind.wrap IntKind.i64 (i + 1))))] [] 0)))))) (T8 (H (lpC Tryz.prog 27 4) (lpK Tryz.prog 27 4) (stV [(0, some (vs s)), (3, some (vi (IntKind.wrap IntKind.i64 (i + 1))))] [] 0))))))))))))) (T2 (Post (vb true))))) := by kernel_rfl
theorem callRN_ok : VCallOk Tryz.prog callRN := inlCall_ok mixed noCall_ok 2
def byteI (s : ByteArray) (i : Nat) : Int := ((s.data.getD i 0).toNat : Int)
def ltr (c : Int) : Prop := 97 ≤ c ∧ c ≤ 122 ∨ 65 ≤ c ∧ c ≤ 90
def nchr (c : Int) : Prop := ltr c ∨ 48 ≤ c ∧ c ≤ 57 ∨ c = 95 ∨ c = 45
instance (c : Int) : Decidable (ltr c) := by unfold ltr; infer_instance
instance (c : Int) : Decidable (nchr c) := by unfold nchr; infer_instance
def nameOk (s : ByteArray) : Prop := 1 ≤ s.size ∧ s.size ≤ 16 ∧ ltr (byteI s 0) ∧ ∀ i, i < s.size → nchr (byteI s i)
instance (s : ByteArray) : Decidable (nameOk s) := by unfold nameOk; infer_instance
def c_name (args : List Value) (Post : Value → Prop) : Prop := match args with
 | [.string s] => Post (.bool (decide (nameOk s)))
 | _ => False
theorem dec_low {s : ByteArray} {p : Nat} (h : p < s.size) (hb : byteI s p < 128) : ((Utf8.decode s p).1 : Int) = byteI s p ∧ (Utf8.decode s p).2 = 1 := by
 have e : s.data.getD p 0 = s[p]'h := by
  have h' : p < s.data.size := h
  unfold Array.getD
  rw [dif_pos h']
  rfl
 have hb' : (s[p]'h).toNat < 128 := by unfold byteI at hb; rw [e] at hb; omega
 rw [decode_ascii s p h hb']
 unfold byteI
 rw [e]
 exact ⟨rfl, rfl⟩
theorem dec_high {s : ByteArray} {p : Nat} (h : p < s.size) (hb : 128 ≤ byteI s p) : 128 ≤ ((Utf8.decode s p).1 : Int) := by
 have e : s.data.getD p 0 = s[p]'h := by
  have h' : p < s.data.size := h
  unfold Array.getD
  rw [dif_pos h']
  rfl
 have hb' : 128 ≤ (s[p]'h).toNat := by unfold byteI at hb; rw [e] at hb; omega
 have := (decode_high s p h hb').1
 omega
theorem size_zero {s : ByteArray} (h : s.size = 0) : s = ⟨#[]⟩ := by
 refine ba_ext ?_
 have : s.data.toList.length = 0 := by rw [Array.length_toList]; exact h
 rw [List.length_eq_zero_iff.1 this]
theorem ok_rName : EntOk Tryz.prog ⟨27, c_name⟩ := by
 intro args Post h
 unfold c_name at h
 dsimp only at h
 split at h
 case h_2 => exact h.elim
 rename_i s
 refine pure_P (vc := callRN) callRN_ok mixed (by kernel_rfl) (by kernel_rfl) _ (e_rName s _ _) ?_
 have no : ¬ nameOk s → Post (.bool false) := fun hn => of_b h (decide_eq_false hn)
 have all : s.size ≤ 16 → ltr (byteI s 0) → OkP 27 [.string s] 4 Post (stV [(0, some (.string s)), (3, some (.int .i64 (0 : Nat)))] [] 0) := fun h16 hl => by
  refine down (n := s.size) (p := fun k => (∀ i, i < k → nchr (byteI s i)) → OkP 27 [.string s] 4 Post (stV [(0, some (.string s)), (3, some (.int .i64 k))] [] 0)) (fun hall => ?_) (fun k hk ih hall => ?_) (fun i hi => by omega)
  ·refine ok_P (vc := callRN) callRN_ok mixed _ (l_rName s _ _ _) ?_
   have hy : Post (.bool true) := of_b h (decide_eq_true ⟨by
    rcases Nat.eq_zero_or_pos s.size with h0 | h0
    ·rw [size_zero h0] at hl; exact absurd hl (by decide)
    ·exact h0, h16, hl, hall⟩)
   simp only [true_and, pIf_iff, decide_eq_true_eq, decide_eq_false_iff_not, and_true]
   exact ⟨fun hh => by omega, fun _ => hy⟩
  ·refine ok_P (vc := callRN) callRN_ok mixed _ (l_rName s _ _ _) ?_
   have hX : nchr (byteI s k) → OkP 27 [.string s] 4 Post (stV [(0, some (.string s)), (3, some (.int .i64 ((k + 1 : Nat) : Int)))] [] 0) := fun hk' => ih fun i hi => by
    rcases Nat.lt_or_ge i k with h' | h'
    ·exact hall i h'
    ·obtain rfl : i = k := by omega
     exact hk'
   have hY : ¬ nchr (byteI s k) → Post (.bool false) := fun hn => no fun f => hn (f.2.2.2 k hk)
   rw [wrapSucc (by omega)]
   simp only [Int.toNat_natCast]
   change nchr (byteI s k) → OkAt _ _ _ _ _ _ _ at hX
   have ec : ((s.data.getD k 0).toNat : Int) = byteI s k := rfl
   simp only [ec]
   unfold nchr ltr at hX hY
   generalize byteI s k = c at hX hY ⊢
   simp only [true_and, and_true, pIf_iff, decide_eq_true_eq, decide_eq_false_iff_not, Bool.not_eq_eq_eq_not, Bool.not_true, Bool.not_false]
   repeat' (first
    | exact hX (by omega)
    | exact hY (by omega)
    | refine And.intro ?_ ?_
    | omega
    | intro _)
 simp only [true_and, and_true, pIf_iff, decide_eq_true_eq, decide_eq_false_iff_not]
 have ec : ((s.data.getD 0 0).toNat : Int) = byteI s 0 := rfl
 simp only [ec]
 refine ⟨fun h0 => no fun f => ?_, fun h0 => ⟨fun h1 => no fun f => ?_, fun h1 => ?_⟩⟩
 ·rw [h0] at f; exact absurd f.1 (by decide)
 ·have := f.2.1; omega
 have hs0 : s.size ≠ 0 := fun h' => h0 (size_zero h')
 have hX : ltr (byteI s 0) → OkAt _ _ _ _ _ _ _ := all (by omega)
 have hY : ¬ ltr (byteI s 0) → Post (.bool false) := fun hn => no fun f => hn f.2.2.1
 unfold ltr at hX hY
 generalize byteI s 0 = c at hX hY ⊢
 repeat' (first
  | exact hX (by omega)
  | exact hY (by omega)
  | refine And.intro ?_ ?_
  | omega
  | decide
  | intro _)
theorem ok_name : EntOk Tryz.prog ⟨46, c_name⟩ := by
 intro args Post h
 unfold c_name at h
 dsimp only at h
 split at h
 case h_2 => exact h.elim
 rename_i s
 refine pure_P (vc := noCall) noCall_ok mixed (by kernel_rfl) (by kernel_rfl) _ (e_isName s _ _) ?_
 have no : ¬ nameOk s → Post (.bool false) := fun hn => of_b h (decide_eq_false hn)
 simp only [true_and, and_true, pIf_iff, decide_eq_true_eq, decide_eq_false_iff_not]
 refine ⟨fun h0 => no fun f => ?_, fun h0 => ⟨fun h1 => no fun f => ?_, fun h1 => ?_⟩⟩
 ·rw [h0] at f; exact absurd f.1 (by decide)
 ·have := f.2.1; omega
 have hs0 : s.size ≠ 0 := fun h' => h0 (size_zero h')
 refine down (n := s.size) (p := fun k => (∀ i, i < k → nchr (byteI s i)) → (0 < k → ltr (byteI s 0)) → OkP 46 [.string s] 4 Post (stV [(0, some (.string s)), (15, some (.pointer (some ⟨0, 0, none⟩)))] [(0, some (.iter s k))] 1)) (fun hall hl => ?_) (fun k hk ih hall hl => ?_) (fun i hi => by omega) (fun h => by omega)
 ·refine ok_P (vc := noCall) noCall_ok mixed _ (l_isName s _ _ _) ?_
  have hy : Post (.bool true) := of_b h (decide_eq_true ⟨by omega, by omega, hl (by omega), hall⟩)
  refine pIf_intro (fun hh => absurd (of_decide_eq_true hh) (Nat.lt_irrefl _)) (fun _ => ?_)
  simp only [true_and, and_true]
  exact hy
 ·refine ok_P (vc := noCall) noCall_ok mixed _ (l_isName s _ _ _) ?_
  refine pIf_intro (fun _ => ?_) (fun hh => absurd hk (of_decide_eq_false hh))
  have hX : nchr (byteI s k) → (k = 0 → ltr (byteI s k)) → ((Utf8.decode s k).2 = 1) → OkP 46 [.string s] 4 Post (stV [(0, some (.string s)), (15, some (.pointer (some ⟨0, 0, none⟩)))] [(0, some (.iter s (k + (Utf8.decode s k).2)))] 1) := fun h1 h2 h3 => by
   rw [h3]
   refine ih (fun i hi => ?_) (fun _ => ?_)
   ·rcases Nat.lt_or_ge i k with h' | h'
    ·exact hall i h'
    ·obtain rfl : i = k := by omega
     exact h1
   ·rcases Nat.eq_zero_or_pos k with h' | h'
    ·subst h'; exact h2 rfl
    ·exact hl h'
  have hY : ¬ (nchr (byteI s k) ∧ (k = 0 → ltr (byteI s k))) → Post (.bool false) := fun hn => no fun f => hn ⟨f.2.2.2 k hk, fun hk0 => by subst hk0; exact f.2.2.1⟩
  change _ → _ → _ → OkAt _ _ _ _ _ _ _ at hX
  have hlow := dec_low hk
  have hhigh := dec_high hk
  generalize (Utf8.decode s k).2 = wd at hX hlow hhigh ⊢
  generalize ((Utf8.decode s k).1 : Int) = d at hX hlow hhigh ⊢
  unfold nchr ltr at hX hY
  generalize byteI s k = c at hX hY hlow hhigh
  simp only [true_and, and_true, pIf_iff, decide_eq_true_eq, decide_eq_false_iff_not, Bool.not_eq_eq_eq_not, Bool.not_true, Bool.not_false]
  by_cases hc : c < 128
  ·obtain ⟨rfl, rfl⟩ := hlow hc
   repeat' (first
    | exact hX (by omega) (by omega) rfl
    | exact hY (by omega)
    | refine And.intro ?_ ?_
    | omega
    | intro _)
  ·have hd := hhigh (by omega)
   have hyy := hY (by omega)
   repeat' (first
    | exact hyy
    | refine And.intro ?_ ?_
    | omega
    | intro _)
end Go.Proofs.YtegjnjmimfgijaaGreatDoor

noncomputable section
namespace Go.Proofs.YtegjnjmimfgijaaGreatDoor
open Go Go.RowKit
set_option maxRecDepth 100000
theorem e_split (s : ByteArray) (H : Code → List Fr → AS → Prop) (Post : Value → Prop) : vcP Tryz.prog (tabCall [⟨86, c_gs⟩] noCall) 73 [] [.string s, .string dot] H Post = (T2 (True ∧ ∃ (s_1 : ByteArray), eqL [vs s, vs dot, vi 0, vi (-1)] [vs s_1, vs dot, vi 0, vi (-1)] ∧ ByteArray.size s_1 < 16777216 ∧ T2 (Post (tree 1 (List.length (pieces s_1)) (encL (pieces s_1)))))) := by kernel_rfl
def tabN : List Ent := [⟨46, c_name⟩]
theorem e_names (n : Nat) (A : Array Value) (H : Code → List Fr → AS → Prop) (Post : Value → Prop) : vcP Tryz.prog (tabCall tabN noCall) 72 [(3, [0, 3, 9, 10, 11])] [tree 1 n A] H Post = (T8 (T2 (H (lpC Tryz.prog 72 3) (lpK Tryz.prog 72 3) (stV [(0, some (tree 1 n A)), (3, some (vi (IntKind.wrap IntKind.i64 ((↑n : Int) - 1)))), (9, some (tree 1 n A)), (10, some (vi (↑n : Int))), (11, some (vi 0))] [] 0)))) := by kernel_rfl
theorem l_names (n : Nat) (A : Array Value) (b i : Int) (H : Code → List Fr → AS → Prop) (Post : Value → Prop) : vcLP Tryz.prog (tabCall tabN noCall) 72 [tree 1 n A] [(3, [0, 3, 9, 10, 11])] 3 (stV [(0, some (tree 1 n A)), (3, some (.int .i64 b)), (9, some (tree 1 n A)), (10, some (.int .i64 n)), (11, some (.int .i64 i))] [] 0) H Post = (True ∧ pIf (decide (i < (↑n : Int))) ((0 ≤ i ∧ i < (↑n : Int)) ∧ cellAt A (Int.toNat i) 0 = vs (toS (cellAt A (Int.toNat i) 0)) ∧ T2 (pIf (decide (nameOk (toS (cellAt A (Int.toNat i) 0)))) (T8 (T2 (H (lpC Tryz.prog 72 3) (lpK Tryz.prog 72 3) (stV [(0, some (tree 1 n A)), (3, some (vi (IntKind.wrap IntKind.i64 (b + (↑(ByteArray.size (toS (cellAt A (Int.toNat i) 0))) : Int))))), (9, some (tree 1 n A)), (10, some (vi (↑n : Int))), (11, some (vi (IntKind.wrap IntKind.i64 (i + 1))))] [] 0)))) (T2 (True ∧ Post (vb false))))) (T2 (True ∧ pIf (decide ((↑n : Int) ≥ 1)) (T4 (pIf (decide ((↑n : Int) ≤ 8)) (T4 (pIf (decide (b ≤ 64)) (T2 (True ∧ Post (vb true))) (T2 (True ∧ Post (vb false))))) (T4 (True ∧ Post (vb false))))) (T4 (T2 (Post (vb false))))))) := by kernel_rfl
theorem e_parts (s : ByteArray) (H : Code → List Fr → AS → Prop) (Post : Value → Prop) : vcP Tryz.prog noCall 52 [(4, [0, 3, 4, 5])] [.string s] H Post = (T4 (T2 (H (lpC Tryz.prog 52 4) (lpK Tryz.prog 52 4) (stV [(0, some (vs s)), (3, some (Value.slice none 0 0)), (4, some (vi 0)), (5, some (vi 0))] [] 0)))) := by kernel_rfl
theorem l_parts0 (s : ByteArray) (a i : Int) (H : Code → List Fr → AS → Prop) (Post : Value → Prop) : vcLP Tryz.prog noCall 52 [.string s] [(4, [0, 3, 4, 5])] 4 (stV [(0, some (.string s)), (3, some (.slice none 0 0)), (4, some (.int .i64 a)), (5, some (.int .i64 i))] [] 0) H Post = (T4 (pIf (decide (i ≤ (↑(ByteArray.size s) : Int))) (T4 (pIf (decide (i = (↑(ByteArray.size s) : Int))) (T4 (T2 ((0 ≤ i ∧ 0 ≤ a ∧ Int.toNat a ≤ Int.toNat i ∧ Int.toNat i ≤ ByteArray.size s) ∧ True ∧ 1 ≤ 1 ∧ 1 ≤ 33554432 ∧ true = true ∧ 1 = 1 ∧ T8 ((NLs [vs (ByteArray.extract s (Int.toNat a) (Int.toNat i))] ∧ True) ∧ H (lpC Tryz.prog 52 4) (lpK Tryz.prog 52 4) (stV [(0, some (vs s)), (3, some (Value.slice (some (Addr.mk 0 0 none)) 1 1)), (4, some (vi (IntKind.wrap IntKind.i64 (i + 1)))), (5, some (vi (IntKind.wrap IntKind.i64 (i + 1))))] [(0, some (AObj.cells [vs (ByteArray.extract s (Int.toNat a) (Int.toNat i))] true))] 1))))) (T2 (True ∧ (0 ≤ i ∧ i < (↑(ByteArray.size s) : Int)) ∧ True ∧ pIf (decide ((↑(UInt8.toNat (Array.getD (ByteArray.data s) (Int.toNat i) 0)) : Int) = 46)) (T4 (True ∧ (0 ≤ i ∧ 0 ≤ a ∧ Int.toNat a ≤ Int.toNat i ∧ Int.toNat i ≤ ByteArray.size s) ∧ True ∧ 1 ≤ 1 ∧ 1 ≤ 33554432 ∧ true = true ∧ 1 = 1 ∧ T8 ((NLs [vs (ByteArray.extract s (Int.toNat a) (Int.toNat i))] ∧ True) ∧ H (lpC Tryz.prog 52 4) (lpK Tryz.prog 52 4) (stV [(0, some (vs s)), (3, some (Value.slice (some (Addr.mk 0 0 none)) 1 1)), (4, some (vi (IntKind.wrap IntKind.i64 (i + 1)))), (5, some (vi (IntKind.wrap IntKind.i64 (i + 1))))] [(0, some (AObj.cells [vs (ByteArray.extract s (Int.toNat a) (Int.toNat i))] true))] 1)))) (T4 (T2 (H (lpC Tryz.prog 52 4) (lpK Tryz.prog 52 4) (stV [(0, some (vs s)), (3, some (Value.slice none 0 0)), (4, some (vi a)), (5, some (vi (IntKind.wrap IntKind.i64 (i + 1))))] [] 0)))))))) (T2 (True ∧ Post (tree 1 0 #[]))))) := by kernel_rfl
theorem l_parts1 (s : ByteArray) (a i : Int) (k : Nat) (l : List Value) (H : Code → List Fr → AS → Prop) (Post : Value → Prop) : vcLP Tryz.prog noCall 52 [.string s] [(4, [0, 3, 4, 5])] 4 (stV [(0, some (.string s)), (3, some (.slice (some ⟨0, 0, none⟩) k 1)), (4, some (.int .i64 a)), (5, some (.int .i64 i))] [(0, some (.cells l true))] 1) H Post = (T4 (pIf (decide (i ≤ (↑(ByteArray.size s) : Int))) (T4 (pIf (decide (i = (↑(ByteArray.size s) : Int))) (T4 (T2 ((0 ≤ i ∧ 0 ≤ a ∧ Int.toNat a ≤ Int.toNat i ∧ Int.toNat i ≤ ByteArray.size s) ∧ True ∧ 1 ≤ 1 ∧ k + 1 ≤ 33554432 ∧ true = true ∧ 1 = 1 ∧ 0 + k * 1 = List.length l ∧ T8 ((NLs (l ++ [vs (ByteArray.extract s (Int.toNat a) (Int.toNat i))]) ∧ True) ∧ H (lpC Tryz.prog 52 4) (lpK Tryz.prog 52 4) (stV [(0, some (vs s)), (3, some (Value.slice (some (Addr.mk 0 0 none)) (k + 1) 1)), (4, some (vi (IntKind.wrap IntKind.i64 (i + 1)))), (5, some (vi (IntKind.wrap IntKind.i64 (i + 1))))] [(0, some (AObj.cells (l ++ [vs (ByteArray.extract s (Int.toNat a) (Int.toNat i))]) true))] 1))))) (T2 (True ∧ (0 ≤ i ∧ i < (↑(ByteArray.size s) : Int)) ∧ True ∧ pIf (decide ((↑(UInt8.toNat (Array.getD (ByteArray.data s) (Int.toNat i) 0)) : Int) = 46)) (T4 (True ∧ (0 ≤ i ∧ 0 ≤ a ∧ Int.toNat a ≤ Int.toNat i ∧ Int.toNat i ≤ ByteArray.size s) ∧ True ∧ 1 ≤ 1 ∧ k + 1 ≤ 33554432 ∧ true = true ∧ 1 = 1 ∧ 0 + k * 1 = List.length l ∧ T8 ((NLs (l ++ [vs (ByteArray.extract s (Int.toNat a) (Int.toNat i))]) ∧ True) ∧ H (lpC Tryz.prog 52 4) (lpK Tryz.prog 52 4) (stV [(0, some (vs s)), (3, some (Value.slice (some (Addr.mk 0 0 none)) (k + 1) 1)), (4, some (vi (IntKind.wrap IntKind.i64 (i + 1)))), (5, some (vi (IntKind.wrap IntKind.i64 (i + 1))))] [(0, some (AObj.cells (l ++ [vs (ByteArray.extract s (Int.toNat a) (Int.toNat i))]) true))] 1)))) (T4 (True ∧ (NLs l ∧ True) ∧ H (lpC Tryz.prog 52 4) (lpK Tryz.prog 52 4) (stV [(0, some (vs s)), (3, some (Value.slice (some (Addr.mk 0 0 none)) k 1)), (4, some (vi a)), (5, some (vi (IntKind.wrap IntKind.i64 (i + 1))))] [(0, some (AObj.cells l true))] 1))))))) (T2 ((0 + k * 1 ≤ List.length l ∧ NLs l) ∧ Post (tree 1 k (chunks 1 k (List.drop 0 l))))))) := by kernel_rfl
def c_split (args : List Value) (Post : Value → Prop) : Prop := ∃ s : ByteArray, args = [.string s, .string dot] ∧ s.size < 16777216 ∧ Post (tree 1 (pieces s).length (encL (pieces s)))
theorem ok_split : EntOk Tryz.prog ⟨73, c_split⟩ := by
 rintro args Post ⟨s, rfl, hs, h⟩
 refine pure_P (vc := tabCall [⟨86, c_gs⟩] noCall) (tabCall_ok (by
  intro e he
  simp only [List.mem_cons, List.not_mem_nil, or_false] at he
  subst he
  exact ok_gs) noCall_ok) mixed (by kernel_rfl) (by kernel_rfl) _ (e_split s _ _) ?_
 repeat (first | exact ⟨s, rfl, hs, by repeat (first | exact h | refine And.intro trivial ?_)⟩ | refine And.intro trivial ?_)
theorem idx_is : ∀ {l : List UInt8} {m : Nat} (_ : m < l.length), (∀ j, j < m → l.getD j 0 ≠ 46) → l.getD m 0 = 46 → Lib.indexByte l 46 = m
 | [], m, hm, _, _ => by simp at hm
 | c :: l, m, hm, h, h46 => by
  unfold Lib.indexByte
  cases m with
  | zero =>
   have : c = 46 := by simpa using h46
   subst this
   rfl
  | succ m =>
   have hc : c ≠ 46 := by simpa using h 0 (by omega)
   have hb : (c == 46) = false := by simp [hc]
   have ih := idx_is (l := l) (m := m) (by simpa using hm) (fun j hj => by simpa using h (j + 1) (by omega)) (by simpa using h46)
   rw [hb, ih]
   simp only [Bool.false_eq_true, if_false]
   have : ((m : Int) == -1) = false := by simp
   rw [this]
   simp
theorem cnt_zero {l : List UInt8} (h : ∀ j, j < l.length → l.getD j 0 ≠ 46) : Lib.countByte l 46 = 0 := by
 unfold Lib.countByte
 rw [List.count_eq_zero]
 intro hm
 obtain ⟨j, hj, e⟩ := List.mem_iff_getElem.1 hm
 refine h j hj ?_
 simp [List.getD, List.getElem?_eq_getElem hj, e]
theorem pieces_ne (s : ByteArray) : pieces s ≠ [] := fun h => by
 have := congrArg List.length h
 unfold pieces at this
 rw [List.length_map, splitL_len] at this
 simp at this
def stParts (s : ByteArray) (done : List ByteArray) (a i : Nat) : AS := match done with
 | [] => stV [(0, some (.string s)), (3, some (.slice none 0 0)), (4, some (.int .i64 a)), (5, some (.int .i64 i))] [] 0
 | d :: ds => stV [(0, some (.string s)), (3, some (.slice (some ⟨0, 0, none⟩) (d :: ds).length 1)), (4, some (.int .i64 a)), (5, some (.int .i64 i))] [(0, some (.cells ((d :: ds).map Value.string) true))] 1
theorem NLs_str (l : List ByteArray) : NLs (l.map Value.string) := fun v hv => by
 obtain ⟨s, _, rfl⟩ := List.mem_map.1 hv
 rfl
def c_parts (args : List Value) (Post : Value → Prop) : Prop := ∃ s : ByteArray, args = [.string s] ∧ s.size < 16777216 ∧ Post (tree 1 (pieces s).length (encL (pieces s)))
theorem parts_round {s : ByteArray} {Post : Value → Prop} {done : List ByteArray} {a i : Nat} (hs : s.size < 16777216) (hk : done.length ≤ a) (ha : a ≤ i) (hi : i ≤ s.size)
  (h1 : i = s.size ∨ byteI s i = 46 → OkP 52 [.string s] 4 Post (stParts s (done ++ [s.extract a i]) (i + 1) (i + 1)))
  (h2 : i < s.size → byteI s i ≠ 46 → OkP 52 [.string s] 4 Post (stParts s done a (i + 1))) : OkP 52 [.string s] 4 Post (stParts s done a i) := by
 have ei : ((i : Nat) : Int).toNat = i := by omega
 have ea : ((a : Nat) : Int).toNat = a := by omega
 have ew : IntKind.i64.wrap ((i : Int) + 1) = ((i + 1 : Nat) : Int) := wrapSucc (by omega)
 have ec : ((s.data.getD i 0).toNat : Int) = byteI s i := rfl
 cases done with
 | nil =>
  refine ok_P (vc := noCall) noCall_ok mixed _ (l_parts0 s _ _ _ _) ?_
  simp only [ei, ea, ew, ec, true_and]
  refine pIf_intro (fun _ => ?_) (fun hh => by have := of_decide_eq_false hh; omega)
  refine pIf_intro (fun hh => ?_) (fun hh => ?_)
  ·exact ⟨⟨by omega, by omega, ha, hi⟩, by omega, by omega, ⟨NLs_str [s.extract a i], trivial⟩, h1 (.inl (by have := of_decide_eq_true hh; omega))⟩
  ·have hlt : i < s.size := by have := of_decide_eq_false hh; omega
   refine ⟨⟨by omega, by omega⟩, pIf_intro (fun hb => ?_) (fun hb => ?_)⟩
   ·exact ⟨⟨by omega, by omega, ha, hi⟩, by omega, by omega, ⟨NLs_str [s.extract a i], trivial⟩, h1 (.inr (of_decide_eq_true hb))⟩
   ·exact h2 hlt (of_decide_eq_false hb)
 | cons d ds =>
  refine ok_P (vc := noCall) noCall_ok mixed _ (l_parts1 s _ _ _ _ _ _) ?_
  simp only [ei, ea, ew, ec, true_and]
  have hlen : (d :: ds).length ≤ 16777216 := by omega
  have el : (List.map Value.string (d :: ds)) ++ [Value.string (s.extract a i)] = List.map Value.string (d :: ds ++ [s.extract a i]) := by simp
  have en : (d :: ds).length + 1 = (d :: ds ++ [s.extract a i]).length := by simp
  have fit : 0 + (d :: ds).length * 1 = (List.map Value.string (d :: ds)).length := by simp
  refine pIf_intro (fun _ => ?_) (fun hh => by have := of_decide_eq_false hh; omega)
  refine pIf_intro (fun hh => ?_) (fun hh => ?_)
  ·have hx := h1 (.inl (by have := of_decide_eq_true hh; omega))
   rw [el, en]
   exact ⟨⟨by omega, by omega, ha, hi⟩, by omega, by rw [← en]; omega, fit, ⟨NLs_str _, trivial⟩, hx⟩
  ·have hlt : i < s.size := by have := of_decide_eq_false hh; omega
   refine ⟨⟨by omega, by omega⟩, pIf_intro (fun hb => ?_) (fun hb => ?_)⟩
   ·have hx := h1 (.inr (of_decide_eq_true hb))
    rw [el, en]
    exact ⟨⟨by omega, by omega, ha, hi⟩, by omega, by rw [← en]; omega, fit, ⟨NLs_str _, trivial⟩, hx⟩
   ·exact ⟨⟨NLs_str _, trivial⟩, h2 hlt (of_decide_eq_false hb)⟩
theorem ok_parts : EntOk Tryz.prog ⟨52, c_parts⟩ := by
 rintro args Post ⟨s, rfl, hs, h⟩
 refine pure_P (vc := noCall) noCall_ok mixed (by kernel_rfl) (by kernel_rfl) _ (e_parts s _ _) ?_
 have hlast : OkP 52 [.string s] 4 Post (stParts s (pieces s) (s.size + 1) (s.size + 1)) := by
  cases hp : pieces s with
  | nil => exact absurd hp (pieces_ne s)
  | cons d ds =>
   refine ok_P (vc := noCall) noCall_ok mixed _ (l_parts1 s _ _ _ _ _ _) ?_
   simp only [true_and]
   refine pIf_intro (fun hh => by have := of_decide_eq_true hh; omega) (fun _ => ?_)
   rw [hp] at h
   have e : chunks 1 (d :: ds).length (List.drop 0 (List.map Value.string (d :: ds))) = encL (d :: ds) := by
    show ((List.map Value.string (d :: ds)).take _).toArray = _
    rw [List.take_of_length_le (by simp)]
    rfl
   rw [e]
   exact ⟨⟨by simp, NLs_str _⟩, h⟩
 have hll : s.data.toList.length = s.size := by rw [Array.length_toList]; rfl
 have hx : ∀ a, a ≤ s.size → (s.extract a s.size).data.toList = s.data.toList.drop a := fun a ha => by rw [ext_list, List.take_of_length_le (by rw [List.length_drop, hll]; omega)]
 have hby : ∀ i, byteI s i = 46 ↔ s.data.toList.getD i 0 = 46 := fun i => by
  unfold byteI
  have e : s.data.getD i 0 = s.data.toList.getD i 0 := by simp [Array.getD_eq_getD_getElem?, List.getD_eq_getElem?_getD]
  rw [e]
  constructor
  ·intro h'
   have : (s.data.toList.getD i 0).toNat = 46 := by omega
   exact UInt8.toNat_inj.1 (this.trans rfl)
  ·intro h'; rw [h']; rfl
 have key : ∀ (n i a : Nat) (done : List ByteArray), i + n = s.size → a ≤ i → done.length ≤ a → done ++ pieces (s.extract a s.size) = pieces s → (∀ j, a ≤ j → j < i → byteI s j ≠ 46) → OkP 52 [.string s] 4 Post (stParts s done a i) := by
  intro n
  induction n with
  | zero =>
   intro i a done hi ha hk hp hno
   obtain rfl : i = s.size := by omega
   refine parts_round hs hk ha (Nat.le_refl _) (fun _ => ?_) (fun hlt => by omega)
   have h0 : pieces (s.extract a s.size) = [s.extract a s.size] := by
    refine pieces_none (cnt_zero fun j hj => ?_)
    rw [hx a ha] at hj ⊢
    rw [List.length_drop, hll] at hj
    have := hno (a + j) (by omega) (by omega)
    rw [Ne, hby] at this
    simpa [List.getD_eq_getElem?_getD] using this
   rw [h0] at hp
   rw [hp]
   exact hlast
  | succ n ih =>
   intro i a done hi ha hk hp hno
   refine parts_round hs hk ha (by omega) (fun hor => ?_) (fun hlt hb => ?_)
   ·have h46 : byteI s i = 46 := by
     rcases hor with h' | h'
     ·omega
     ·exact h'
    have hidx : Lib.indexByte (s.extract a s.size).data.toList 46 = ((i - a : Nat) : Int) := by
     rw [hx a (by omega)]
     refine idx_is (by rw [List.length_drop, hll]; omega) (fun j hj => ?_) ?_
     ·have := hno (a + j) (by omega) (by omega)
      rw [Ne, hby] at this
      simpa [List.getD_eq_getElem?_getD] using this
     ·have := (hby i).1 h46
      have e : a + (i - a) = i := by omega
      simpa [List.getD_eq_getElem?_getD, e] using this
    obtain ⟨g1, g2, _⟩ := pieces_some hidx
    have e1 : (s.extract a s.size).extract 0 (i - a) = s.extract a i := by
     refine ba_ext ?_
     rw [ext_list, hx a (by omega), ext_list]
     simp
    have e2 : (s.extract a s.size).extract (i - a + 1) (s.extract a s.size).size = s.extract (i + 1) s.size := by
     refine ba_ext ?_
     rw [ext_list, hx a (by omega), hx (i + 1) (by omega), List.drop_drop, List.take_of_length_le (by rw [List.length_drop, hll, ext_size]; omega)]
     congr 1
     omega
    rw [e1, e2] at g2
    exact ih (i + 1) (i + 1) _ (by omega) (Nat.le_refl _) (by simp; omega) (by rw [← hp, g2]; simp) (fun j h1 h2 => by omega)
   ·exact ih (i + 1) a done (by omega) (by omega) hk hp (fun j h1 h2 => by
     rcases Nat.lt_or_ge j i with h' | h'
     ·exact hno j h1 h'
     ·obtain rfl : j = i := by omega
      exact hb)
 have := key s.size 0 0 [] (by omega) (Nat.le_refl _) (Nat.le_refl _) (by
  have : s.extract 0 s.size = s := by
   refine ba_ext ?_
   rw [hx 0 (by omega), List.drop_zero]
  rw [this]; rfl) (fun j h1 h2 => by omega)
 repeat (first | exact this | refine And.intro trivial ?_)
end Go.Proofs.YtegjnjmimfgijaaGreatDoor

noncomputable section
namespace Go.Proofs.YtegjnjmimfgijaaGreatDoor
open Go Go.RowKit
set_option maxRecDepth 100000
def namesOk (l : List ByteArray) : Prop := 1 ≤ l.length ∧ l.length ≤ 8 ∧ (∀ p ∈ l, nameOk p) ∧ l.length + volL l ≤ 65
instance (l : List ByteArray) : Decidable (namesOk l) := by unfold namesOk; infer_instance
def c_names (args : List Value) (Post : Value → Prop) : Prop := ∃ l : List ByteArray, args = [tree 1 l.length (encL l)] ∧ l.length + volL l ≤ 16777216 ∧ Post (.bool (decide (namesOk l)))
theorem volL_tk (l : List ByteArray) (k : Nat) (h : k < l.length) : volL (l.take (k + 1)) = volL (l.take k) + l[k].size := by
 unfold volL
 rw [List.take_succ_eq_append_getElem h, List.map_append, List.sum_append]
 simp
theorem ok_names : EntOk Tryz.prog ⟨72, c_names⟩ := by
 rintro args Post ⟨l, rfl, hv, h⟩
 have hok : VCallOk Tryz.prog (tabCall tabN noCall) := tabCall_ok (by
  intro e he
  simp only [tabN, List.mem_cons, List.not_mem_nil, or_false] at he
  subst he
  exact ok_name) noCall_ok
 refine pure_P (vc := tabCall tabN noCall) hok mixed (by kernel_rfl) (by kernel_rfl) _ (e_names _ _ _ _) ?_
 have no : ¬ namesOk l → Post (.bool false) := fun hn => of_b h (decide_eq_false hn)
 simp only [true_and]
 have key := down (n := l.length) (p := fun k => (∀ i (hi : i < l.length), i < k → nameOk l[i]) → OkP 72 [tree 1 l.length (encL l)] 3 Post (stV [(0, some (tree 1 l.length (encL l))), (3, some (.int .i64 ((l.length : Int) - 1 + (volL (l.take k) : Nat)))), (9, some (tree 1 l.length (encL l))), (10, some (.int .i64 l.length)), (11, some (.int .i64 k))] [] 0)) (fun hall => ?_) (fun k hk ih hall => ?_) (fun i hi h0 => by omega)
 ·rw [wrap64 (by omega) (by omega)]
  have e : ((l.length : Int) - 1 + ((volL (l.take 0) : Nat) : Int)) = (l.length : Int) - 1 := by simp [volL]
  rw [e] at key
  exact key
 ·refine ok_P (vc := tabCall tabN noCall) hok mixed _ (l_names _ _ _ _ _ _) ?_
  simp only [true_and]
  have hall' : ∀ p ∈ l, nameOk p := fun p hp => by
   obtain ⟨i, hi, rfl⟩ := List.mem_iff_getElem.1 hp
   exact hall i hi hi
  refine pIf_intro (fun hh => by have := of_decide_eq_true hh; omega) (fun _ => ?_)
  rw [List.take_of_length_le (Nat.le_refl _)]
  refine pIf_intro (fun h1 => ?_) (fun h1 => no fun f => absurd f.1 (by have := of_decide_eq_false h1; omega))
  refine pIf_intro (fun h2 => ?_) (fun h2 => no fun f => absurd f.2.1 (by have := of_decide_eq_false h2; omega))
  have h1 := of_decide_eq_true h1
  have h2 := of_decide_eq_true h2
  exact pIf_intro (fun h3 => of_b h (decide_eq_true ⟨by omega, by omega, hall', by have := of_decide_eq_true h3; omega⟩)) (fun h3 => no fun f => absurd f.2.2.2 (by have := of_decide_eq_false h3; omega))
 ·refine ok_P (vc := tabCall tabN noCall) hok mixed _ (l_names _ _ _ _ _ _) ?_
  have ek : ((k : Nat) : Int).toNat = k := by omega
  simp only [true_and, ek, cell_str hk, toS]
  refine pIf_intro (fun _ => ?_) (fun hh => by have := of_decide_eq_false hh; omega)
  refine ⟨⟨by omega, by omega⟩, pIf_intro (fun hn => ?_) (fun hn => no fun f => absurd (f.2.2.1 _ (List.getElem_mem hk)) (of_decide_eq_false hn))⟩
  have hv1 := volL_tk l k hk
  have hv2 := volL_take l (k + 1)
  have ew : IntKind.i64.wrap ((l.length : Int) - 1 + ((volL (l.take k) : Nat) : Int) + (l[k].size : Int)) = (l.length : Int) - 1 + ((volL (l.take (k + 1)) : Nat) : Int) := by
   rw [wrap64 (by omega) (by omega)]; omega
  rw [ew, wrapSucc (by omega)]
  exact ih fun i hi hik => by
   rcases Nat.lt_or_ge i k with h' | h'
   ·exact hall i hi h'
   ·obtain rfl : i = k := by omega
    exact of_decide_eq_true hn
def idOk (s : ByteArray) : Prop := s.size ≤ 64 ∧ (pieces s).length ≤ 8 ∧ ∀ p ∈ pieces s, nameOk p
instance (s : ByteArray) : Decidable (idOk s) := by unfold idOk; infer_instance
theorem pieces_vol (s : ByteArray) : (pieces s).length + volL (pieces s) = s.size + 1 := by
 have key : ∀ l : List UInt8, (splitL l).length + ((splitL l).map List.length).sum = l.length + 1 := by
  intro l
  induction l with
  | nil => rfl
  | cons c l ih =>
   by_cases hc : c = 46
   ·subst hc
    simp only [splitL, if_true, List.length_cons, List.map_cons, List.sum_cons, List.length_nil]
    omega
   ·simp only [splitL, hc, if_false]
    split
    ·rename_i p ps hp
     rw [hp] at ih
     simp only [List.length_cons, List.map_cons, List.sum_cons] at ih ⊢
     omega
    ·rename_i hp
     rw [hp] at ih
     simp at ih
 have h := key s.data.toList
 have hl : s.data.toList.length = s.size := by rw [Array.length_toList]; rfl
 unfold pieces volL
 rw [List.length_map, List.map_map, ← hl]
 have e : (List.map (ByteArray.size ∘ fun l => (⟨l.toArray⟩ : ByteArray)) (splitL s.data.toList)) = (splitL s.data.toList).map List.length := List.map_congr_left fun l _ => by simp [ByteArray.size]
 rw [e]
 exact h
def tabId : List Ent := [⟨73, c_split⟩, ⟨72, c_names⟩]
theorem e_id (s : ByteArray) (H : Code → List Fr → AS → Prop) (Post : Value → Prop) : vcP Tryz.prog (tabCall tabId noCall) 45 [] [.string s] H Post = (T4 (pIf (decide ((↑(ByteArray.size s) : Int) ≤ 64)) (T2 (∃ (s_1 : ByteArray), eqL [vs s, vs (ByteArray.mk #[46])] [vs s_1, vs dot] ∧ ByteArray.size s_1 < 16777216 ∧ ∃ (l : List ByteArray), eqL [tree 1 (List.length (pieces s_1)) (encL (pieces s_1))] [tree 1 (List.length l) (encL l)] ∧ List.length l + volL l ≤ 16777216 ∧ pIf (decide (namesOk l)) (T2 (True ∧ Post (vb true))) (T2 (True ∧ Post (vb false))))) (T4 (Post (vb false))))) := by kernel_rfl
def tabRId : List Ent := [⟨52, c_parts⟩, ⟨27, c_name⟩]
theorem e_rid (s : ByteArray) (H : Code → List Fr → AS → Prop) (Post : Value → Prop) : vcP Tryz.prog (tabCall tabRId noCall) 25 [(5, [3, 4])] [.string s] H Post = (T2 (∃ (s_1 : ByteArray), eqL [vs s] [vs s_1] ∧ ByteArray.size s_1 < 16777216 ∧ T4 (pIf (decide ((↑(ByteArray.size s) : Int) > 64)) (T4 (Post (vb false))) (T4 (pIf (decide ((↑(List.length (pieces s_1)) : Int) > 8)) (T2 (True ∧ Post (vb false))) (T4 (H (lpC Tryz.prog 25 5) (lpK Tryz.prog 25 5) (stV [(3, some (tree 1 (List.length (pieces s_1)) (encL (pieces s_1)))), (4, some (vi 0))] [] 0)))))))) := by kernel_rfl
theorem l_rid (s : ByteArray) (n : Nat) (A : Array Value) (i : Int) (H : Code → List Fr → AS → Prop) (Post : Value → Prop) : vcLP Tryz.prog (tabCall tabRId noCall) 25 [.string s] [(5, [3, 4])] 5 (stV [(3, some (tree 1 n A)), (4, some (.int .i64 i))] [] 0) H Post = (T4 (pIf (decide (i < (↑n : Int))) (T2 ((0 ≤ i ∧ i < (↑n : Int)) ∧ cellAt A (Int.toNat i) 0 = vs (toS (cellAt A (Int.toNat i) 0)) ∧ pIf (decide (nameOk (toS (cellAt A (Int.toNat i) 0)))) (T4 (T2 (H (lpC Tryz.prog 25 5) (lpK Tryz.prog 25 5) (stV [(3, some (tree 1 n A)), (4, some (vi (IntKind.wrap IntKind.i64 (i + 1))))] [] 0)))) (T2 (True ∧ Post (vb false))))) (T2 (Post (vb true))))) := by kernel_rfl
def c_id (args : List Value) (Post : Value → Prop) : Prop := ∃ s : ByteArray, args = [.string s] ∧ s.size < 16777000 ∧ Post (.bool (decide (idOk s)))
theorem ok_id : EntOk Tryz.prog ⟨45, c_id⟩ := by
 rintro args Post ⟨s, rfl, hs, h⟩
 have hok : VCallOk Tryz.prog (tabCall tabId noCall) := tabCall_ok (by
  intro e he
  simp only [tabId, List.mem_cons, List.not_mem_nil, or_false] at he
  rcases he with rfl | rfl
  ·exact ok_split
  ·exact ok_names) noCall_ok
 refine pure_P (vc := tabCall tabId noCall) hok mixed (by kernel_rfl) (by kernel_rfl) _ (e_id s _ _) ?_
 simp only [true_and]
 have no : ¬ idOk s → Post (.bool false) := fun hn => of_b h (decide_eq_false hn)
 refine pIf_intro (fun h1 => ?_) (fun h1 => no fun f => absurd f.1 (by have := of_decide_eq_false h1; omega))
 have h1 := of_decide_eq_true h1
 have hv := pieces_vol s
 refine ⟨s, rfl, by omega, pieces s, rfl, by omega, pIf_intro (fun h2 => ?_) (fun h2 => no fun f => ?_)⟩
 ·obtain ⟨_, g2, g3, _⟩ := of_decide_eq_true h2
  exact of_b h (decide_eq_true ⟨by omega, g2, g3⟩)
 ·refine of_decide_eq_false h2 ⟨?_, f.2.1, f.2.2, by omega⟩
  rcases Nat.eq_zero_or_pos (pieces s).length with h0 | h0
  ·exact absurd (List.eq_nil_of_length_eq_zero h0) (pieces_ne s)
  ·exact h0
theorem ok_rid : EntOk Tryz.prog ⟨25, c_id⟩ := by
 rintro args Post ⟨s, rfl, hs, h⟩
 have hok : VCallOk Tryz.prog (tabCall tabRId noCall) := tabCall_ok (by
  intro e he
  simp only [tabRId, List.mem_cons, List.not_mem_nil, or_false] at he
  rcases he with rfl | rfl
  ·exact ok_parts
  ·exact ok_rName) noCall_ok
 refine pure_P (vc := tabCall tabRId noCall) hok mixed (by kernel_rfl) (by kernel_rfl) _ (e_rid s _ _) ?_
 simp only [true_and]
 have no : ¬ idOk s → Post (.bool false) := fun hn => of_b h (decide_eq_false hn)
 refine ⟨s, rfl, by omega, pIf_intro (fun h1 => no fun f => absurd f.1 (by have := of_decide_eq_true h1; omega)) (fun h1 => ?_)⟩
 refine pIf_intro (fun h2 => no fun f => absurd f.2.1 (by have := of_decide_eq_true h2; omega)) (fun h2 => ?_)
 have h1 := of_decide_eq_false h1
 have h2 := of_decide_eq_false h2
 have key := down (n := (pieces s).length) (p := fun k => (∀ i (hi : i < (pieces s).length), i < k → nameOk (pieces s)[i]) → OkP 25 [.string s] 5 Post (stV [(3, some (tree 1 (pieces s).length (encL (pieces s)))), (4, some (.int .i64 k))] [] 0)) (fun hall => ?_) (fun k hk ih hall => ?_) (fun i hi h0 => by omega)
 ·exact key
 ·refine ok_P (vc := tabCall tabRId noCall) hok mixed _ (l_rid _ _ _ _ _ _) ?_
  simp only [true_and]
  refine pIf_intro (fun hh => by have := of_decide_eq_true hh; omega) (fun _ => ?_)
  refine of_b h (decide_eq_true ⟨by omega, by omega, fun p hp => ?_⟩)
  obtain ⟨i, hi, rfl⟩ := List.mem_iff_getElem.1 hp
  exact hall i hi hi
 ·refine ok_P (vc := tabCall tabRId noCall) hok mixed _ (l_rid _ _ _ _ _ _) ?_
  have ek : ((k : Nat) : Int).toNat = k := by omega
  simp only [true_and, ek, cell_str hk, toS]
  refine pIf_intro (fun _ => ?_) (fun hh => by have := of_decide_eq_false hh; omega)
  refine ⟨⟨by omega, by omega⟩, pIf_intro (fun hn => ?_) (fun hn => no fun f => absurd (f.2.2 _ (List.getElem_mem hk)) (of_decide_eq_false hn))⟩
  rw [wrapSucc (by omega)]
  exact ih fun i hi hik => by
   rcases Nat.lt_or_ge i k with h' | h'
   ·exact hall i hi h'
   ·obtain rfl : i = k := by omega
    exact of_decide_eq_true hn
end Go.Proofs.YtegjnjmimfgijaaGreatDoor

noncomputable section
namespace Go.Proofs.YtegjnjmimfgijaaGreatDoor
open Go Go.RowKit
set_option maxRecDepth 100000
set_option maxHeartbeats 4000000
def nameL : List ByteArray := [⟨#[]⟩, ⟨#[111, 114, 100, 101, 114]⟩, ⟨#[115, 104, 101, 101, 116]⟩, ⟨#[98, 97, 114]⟩, ⟨#[98, 117, 121]⟩, ⟨#[110, 101, 115, 116]⟩, ⟨#[115, 97, 119]⟩, ⟨#[115, 99, 114, 97, 112]⟩, ⟨#[102, 105, 116]⟩, ⟨#[119, 101, 108, 100]⟩, ⟨#[105, 110, 115, 112, 101, 99, 116]⟩, ⟨#[114, 101, 112, 97, 105, 114]⟩, ⟨#[112, 97, 99, 107, 97, 103, 101]⟩, ⟨#[119, 101, 105, 103, 104]⟩, ⟨#[101, 114, 101, 99, 116]⟩, ⟨#[112, 101, 114, 109, 105, 116]⟩, ⟨#[116, 101, 115, 116]⟩, ⟨#[108, 97, 117, 110, 99, 104]⟩, ⟨#[100, 101, 108, 105, 118, 101, 114]⟩]
def nameOf (k : Int) : ByteArray := if k < 0 then ⟨#[]⟩ else nameL.getD k.toNat ⟨#[]⟩
def c_nm (args : List Value) (Post : Value → Prop) : Prop := ∃ k : Int, args = [.int .i64 k] ∧ Post (.string (nameOf k))
theorem e_name (k : Int) (H : Code → List Fr → AS → Prop) (Post : Value → Prop) : vcP Tryz.prog noCall 12 [] [.int .i64 k] H Post = (T2 (True ∧ pIf (decide (k < 0)) (T4 (Post (vs (ByteArray.mk #[])))) (T2 (True ∧ pIf (decide (k ≥ 19)) (T2 (True ∧ Post (vs (ByteArray.mk #[])))) (T2 ((0 ≤ k ∧ k < (↑19 : Int)) ∧ cellAt #[Value.agg #[vs (ByteArray.mk #[]), vs (ByteArray.mk #[111, 114, 100, 101, 114]), vs (ByteArray.mk #[115, 104, 101, 101, 116]), vs (ByteArray.mk #[98, 97, 114]), vs (ByteArray.mk #[98, 117, 121]), vs (ByteArray.mk #[110, 101, 115, 116]), vs (ByteArray.mk #[115, 97, 119]), vs (ByteArray.mk #[115, 99, 114, 97, 112]), vs (ByteArray.mk #[102, 105, 116]), vs (ByteArray.mk #[119, 101, 108, 100]), vs (ByteArray.mk #[105, 110, 115, 112, 101, 99, 116]), vs (ByteArray.mk #[114, 101, 112, 97, 105, 114]), vs (ByteArray.mk #[112, 97, 99, 107, 97, 103, 101]), vs (ByteArray.mk #[119, 101, 105, 103, 104]), vs (ByteArray.mk #[101, 114, 101, 99, 116]), vs (ByteArray.mk #[112, 101, 114, 109, 105, 116]), vs (ByteArray.mk #[116, 101, 115, 116]), vs (ByteArray.mk #[108, 97, 117, 110, 99, 104]), vs (ByteArray.mk #[100, 101, 108, 105, 118, 101, 114])]] 0 (0 + Int.toNat k * 1) = vs (toS (cellAt #[Value.agg #[vs (ByteArray.mk #[]), vs (ByteArray.mk #[111, 114, 100, 101, 114]), vs (ByteArray.mk #[115, 104, 101, 101, 116]), vs (ByteArray.mk #[98, 97, 114]), vs (ByteArray.mk #[98, 117, 121]), vs (ByteArray.mk #[110, 101, 115, 116]), vs (ByteArray.mk #[115, 97, 119]), vs (ByteArray.mk #[115, 99, 114, 97, 112]), vs (ByteArray.mk #[102, 105, 116]), vs (ByteArray.mk #[119, 101, 108, 100]), vs (ByteArray.mk #[105, 110, 115, 112, 101, 99, 116]), vs (ByteArray.mk #[114, 101, 112, 97, 105, 114]), vs (ByteArray.mk #[112, 97, 99, 107, 97, 103, 101]), vs (ByteArray.mk #[119, 101, 105, 103, 104]), vs (ByteArray.mk #[101, 114, 101, 99, 116]), vs (ByteArray.mk #[112, 101, 114, 109, 105, 116]), vs (ByteArray.mk #[116, 101, 115, 116]), vs (ByteArray.mk #[108, 97, 117, 110, 99, 104]), vs (ByteArray.mk #[100, 101, 108, 105, 118, 101, 114])]] 0 (0 + Int.toNat k * 1))) ∧ T2 (Post (vs (toS (cellAt #[Value.agg #[vs (ByteArray.mk #[]), vs (ByteArray.mk #[111, 114, 100, 101, 114]), vs (ByteArray.mk #[115, 104, 101, 101, 116]), vs (ByteArray.mk #[98, 97, 114]), vs (ByteArray.mk #[98, 117, 121]), vs (ByteArray.mk #[110, 101, 115, 116]), vs (ByteArray.mk #[115, 97, 119]), vs (ByteArray.mk #[115, 99, 114, 97, 112]), vs (ByteArray.mk #[102, 105, 116]), vs (ByteArray.mk #[119, 101, 108, 100]), vs (ByteArray.mk #[105, 110, 115, 112, 101, 99, 116]), vs (ByteArray.mk #[114, 101, 112, 97, 105, 114]), vs (ByteArray.mk #[112, 97, 99, 107, 97, 103, 101]), vs (ByteArray.mk #[119, 101, 105, 103, 104]), vs (ByteArray.mk #[101, 114, 101, 99, 116]), vs (ByteArray.mk #[112, 101, 114, 109, 105, 116]), vs (ByteArray.mk #[116, 101, 115, 116]), vs (ByteArray.mk #[108, 97, 117, 110, 99, 104]), vs (ByteArray.mk #[100, 101, 108, 105, 118, 101, 114])]] 0 (0 + Int.toNat k * 1))))))))))) := by kernel_rfl
theorem kinds0 {k : Int} (h1 : 0 ≤ k) (h2 : k < 19) : k = 0 ∨ k = 1 ∨ k = 2 ∨ k = 3 ∨ k = 4 ∨ k = 5 ∨ k = 6 ∨ k = 7 ∨ k = 8 ∨ k = 9 ∨ k = 10 ∨ k = 11 ∨ k = 12 ∨ k = 13 ∨ k = 14 ∨ k = 15 ∨ k = 16 ∨ k = 17 ∨ k = 18 := by omega
theorem nameOf_big {k : Int} (h : k < 0 ∨ 19 ≤ k) : nameOf k = ⟨#[]⟩ := by
 unfold nameOf
 split
 ·rfl
 ·rw [List.getD_eq_getElem?_getD, List.getElem?_eq_none (by show 19 ≤ k.toNat; omega)]
  rfl
theorem ok_nm : EntOk Tryz.prog ⟨12, c_nm⟩ := by
 rintro args Post ⟨k, rfl, h⟩
 refine pure_P (vc := noCall) noCall_ok mixed (by kernel_rfl) (by kernel_rfl) _ (e_name k _ _) ?_
 simp only [true_and, and_true]
 refine pIfD (fun hk => ?_) (fun hk => pIfD (fun hk2 => ?_) (fun hk2 => ?_))
 ·rw [nameOf_big (.inl hk)] at h; exact h
 ·rw [nameOf_big (.inr (by omega))] at h; exact h
 ·refine ⟨⟨by omega, by omega⟩, ?_⟩
  rcases kinds0 (k := k) (by omega) (by omega) with rfl | rfl | rfl | rfl | rfl | rfl | rfl | rfl | rfl | rfl | rfl | rfl | rfl | rfl | rfl | rfl | rfl | rfl | rfl
  all_goals exact ⟨by kernel_rfl, Eq.mpr (by kernel_rfl) h⟩
def isItem (k : Int) : Prop := k = 4 ∨ k = 7 ∨ k = 8 ∨ k = 12 ∨ k = 16 ∨ k = 9 ∨ k = 11 ∨ k = 10
def isOf (k : Int) : Prop := k = 9 ∨ k = 11
def isBy (k : Int) : Prop := k = 9 ∨ k = 11 ∨ k = 4
instance (k : Int) : Decidable (isItem k) := by unfold isItem; infer_instance
instance (k : Int) : Decidable (isOf k) := by unfold isOf; infer_instance
instance (k : Int) : Decidable (isBy k) := by unfold isBy; infer_instance
def namedOk (x : Event) : Prop := (isItem x.kind → idOk x.item) ∧ (isOf x.kind → nameOk x.of_) ∧ (isBy x.kind → nameOk x.by_)
instance (x : Event) : Decidable (namedOk x) := by unfold namedOk; infer_instance
def tabNm : List Ent := [⟨45, c_id⟩, ⟨46, c_name⟩]
theorem tabNm_ok : VCallOk Tryz.prog (tabCall tabNm noCall) := tabCall_ok (by
 intro e he
 simp only [tabNm, List.mem_cons, List.not_mem_nil, or_false] at he
 rcases he with rfl | rfl
 ·exact ok_id
 ·exact ok_name) noCall_ok
theorem e_named (x : Event) (H : Code → List Fr → AS → Prop) (Post : Value → Prop) : vcP Tryz.prog (tabCall tabNm noCall) 21 [] [eventV x] H Post = (T4 (True ∧ pIf (decide (Event.kind x = 4)) (T2 (True ∧ ∃ (s : ByteArray), eqL [vs (Event.item x)] [vs s] ∧ ByteArray.size s < 16777000 ∧ pIf (decide (idOk s)) (T2 (True ∧ pIf (decide (nameOk (Event.by_ x))) (T2 (True ∧ Post (vb true))) (T2 (True ∧ Post (vb false))))) (T4 (Post (vb false))))) (T2 (pIf (decide (Event.kind x = 9)) (T2 (True ∧ ∃ (s : ByteArray), eqL [vs (Event.item x)] [vs s] ∧ ByteArray.size s < 16777000 ∧ pIf (decide (idOk s)) (T2 (True ∧ pIf (decide (nameOk (Event.of_ x))) (T4 (pIf (decide (nameOk (Event.by_ x))) (T2 (True ∧ Post (vb true))) (T2 (True ∧ Post (vb false))))) (T4 (True ∧ Post (vb false))))) (T4 (T2 (Post (vb false)))))) (T2 (pIf (decide (Event.kind x = 11)) (T2 (True ∧ ∃ (s : ByteArray), eqL [vs (Event.item x)] [vs s] ∧ ByteArray.size s < 16777000 ∧ pIf (decide (idOk s)) (T2 (True ∧ pIf (decide (nameOk (Event.of_ x))) (T4 (pIf (decide (nameOk (Event.by_ x))) (T2 (True ∧ Post (vb true))) (T2 (True ∧ Post (vb false))))) (T4 (True ∧ Post (vb false))))) (T4 (T2 (Post (vb false)))))) (T2 (pIf (decide (Event.kind x = 7)) (T2 (True ∧ ∃ (s : ByteArray), eqL [vs (Event.item x)] [vs s] ∧ ByteArray.size s < 16777000 ∧ pIf (decide (idOk s)) (T2 (Post (vb true))) (T2 (Post (vb false))))) (T2 (pIf (decide (Event.kind x = 8)) (T2 (True ∧ ∃ (s : ByteArray), eqL [vs (Event.item x)] [vs s] ∧ ByteArray.size s < 16777000 ∧ pIf (decide (idOk s)) (T2 (Post (vb true))) (T2 (Post (vb false))))) (T2 (pIf (decide (Event.kind x = 12)) (T2 (True ∧ ∃ (s : ByteArray), eqL [vs (Event.item x)] [vs s] ∧ ByteArray.size s < 16777000 ∧ pIf (decide (idOk s)) (T2 (Post (vb true))) (T2 (Post (vb false))))) (T2 (pIf (decide (Event.kind x = 16)) (T2 (True ∧ ∃ (s : ByteArray), eqL [vs (Event.item x)] [vs s] ∧ ByteArray.size s < 16777000 ∧ pIf (decide (idOk s)) (T2 (Post (vb true))) (T2 (Post (vb false))))) (T2 (pIf (decide (Event.kind x = 10)) (T2 (True ∧ ∃ (s : ByteArray), eqL [vs (Event.item x)] [vs s] ∧ ByteArray.size s < 16777000 ∧ pIf (decide (idOk s)) (T2 (Post (vb true))) (T2 (Post (vb false))))) (T2 (True ∧ Post (vb true))))))))))))))))))) := by kernel_rfl
def c_named (args : List Value) (Post : Value → Prop) : Prop := ∃ x : Event, args = [eventV x] ∧ x.item.size < 16777000 ∧ Post (.bool (decide (namedOk x)))
theorem ok_named : EntOk Tryz.prog ⟨21, c_named⟩ := by
 rintro args Post ⟨x, rfl, hz, h⟩
 refine pure_P (vc := tabCall tabNm noCall) tabNm_ok mixed (by kernel_rfl) (by kernel_rfl) _ (e_named x _ _) ?_
 have hT : namedOk x → Post (.bool true) := fun hn => of_b h (decide_eq_true hn)
 have hF : ¬ namedOk x → Post (.bool false) := fun hn => of_b h (decide_eq_false hn)
 unfold namedOk isItem isOf isBy at hT hF
 simp only [true_and, and_true]
 clear h
 repeat' (first
  | exact rfl
  | refine ⟨x.item, rfl, hz, ?_⟩
  | refine pIfD (fun hh => ?_) (fun hh => ?_)
  | exact hT ⟨fun _ => by first | assumption | omega, fun _ => by first | assumption | omega, fun _ => by first | assumption | omega⟩
  | exact hF (by rintro ⟨h1, h2, h3⟩; first | (exact absurd (h1 (by omega)) (by assumption)) | (exact absurd (h2 (by omega)) (by assumption)) | (exact absurd (h3 (by omega)) (by assumption))))
end Go.Proofs.YtegjnjmimfgijaaGreatDoor

