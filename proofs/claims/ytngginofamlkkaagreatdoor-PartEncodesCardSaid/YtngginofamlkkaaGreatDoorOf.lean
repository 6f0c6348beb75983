/-
  The statement PartEncodes, carried out. Conditions: none.
-/
import Derived.Test.YtngginofamlkkaaGreatDoorOe
import Derived.Test.YtngginofamlkkaaGreatDoorMc
noncomputable section
namespace Go.Proofs.YtngginofamlkkaaGreatDoor
open Go Go.RowKit
set_option maxRecDepth 100000
def vcPE : VCall := tabCall [⟨24, c_Few16⟩, ⟨25, c_Encode⟩, ⟨26, c_Encode⟩, ⟨17, c_true⟩] noCall
theorem vcPE_ok : VCallOk Tryz.prog vcPE := tabCall_ok (by
  intro e he
  simp only [List.mem_cons, List.not_mem_nil, or_false] at he
  rcases he with rfl | rfl | rfl | rfl
  · exact ok_Few16
  · exact ok_Encode
  · exact ok_REncode
  · exact ok_alive) noCall_ok
theorem e_PartEncodes (p : Part) (H : Code → List Fr → AS → Prop) (Post : Value → Prop) : vcP Tryz.prog vcPE 5 [] [partV p] H Post = (True ∧ True ∧ True ∧ ∃ (p_1 : Part), eqL [Value.agg #[Value.string (Part.id p), Value.int IntKind.i64 (Part.rev p), Value.int IntKind.i64 (Part.kind p), Value.string (Part.node p), Value.string (Part.grade p), Value.int IntKind.i64 (Part.thick p), trPt (Part.outer p), trPts (Part.holes p), Value.string (Part.sect p), Value.int IntKind.i64 (Part.long p), Value.int IntKind.i64 (Part.mass p), Value.int IntKind.i64 (Vec3.x (Part.centre p)), Value.int IntKind.i64 (Vec3.y (Part.centre p)), Value.int IntKind.i64 (Vec3.z (Part.centre p)), Value.int IntKind.i64 (Vec3.x (Part.at_ p)), Value.int IntKind.i64 (Vec3.y (Part.at_ p)), Value.int IntKind.i64 (Vec3.z (Part.at_ p)), Value.int IntKind.i64 (Part.turn p)]] [partV p_1] ∧ pIf (decide (few16 p_1)) (True ∧ True ∧ True ∧ True ∧ True ∧ ∃ (p_2 : Part), eqL [Value.agg #[Value.string (Part.id p), Value.int IntKind.i64 (Part.rev p), Value.int IntKind.i64 (Part.kind p), Value.string (Part.node p), Value.string (Part.grade p), Value.int IntKind.i64 (Part.thick p), trPt (Part.outer p), trPts (Part.holes p), Value.string (Part.sect p), Value.int IntKind.i64 (Part.long p), Value.int IntKind.i64 (Part.mass p), Value.int IntKind.i64 (Vec3.x (Part.centre p)), Value.int IntKind.i64 (Vec3.y (Part.centre p)), Value.int IntKind.i64 (Vec3.z (Part.centre p)), Value.int IntKind.i64 (Vec3.x (Part.at_ p)), Value.int IntKind.i64 (Vec3.y (Part.at_ p)), Value.int IntKind.i64 (Vec3.z (Part.at_ p)), Value.int IntKind.i64 (Part.turn p)]] [partV p_2] ∧ InPart p_2 ∧ (ByteArray.size (Part.id p_2) ≤ 200 ∧ ByteArray.size (Part.node p_2) ≤ 200 ∧ ByteArray.size (Part.grade p_2) ≤ 200 ∧ ByteArray.size (Part.sect p_2) ≤ 200 ∧ List.length (Part.outer p_2) ≤ 40 ∧ List.length (Part.holes p_2) ≤ 12 ∧ ∀ (h : List Pt), h ∈ Part.holes p_2 → List.length h ≤ 40) ∧ True ∧ ∃ (p_3 : Part), eqL [Value.agg #[Value.string (Part.id p), Value.int IntKind.i64 (Part.rev p), Value.int IntKind.i64 (Part.kind p), Value.string (Part.node p), Value.string (Part.grade p), Value.int IntKind.i64 (Part.thick p), trPt (Part.outer p), trPts (Part.holes p), Value.string (Part.sect p), Value.int IntKind.i64 (Part.long p), Value.int IntKind.i64 (Part.mass p), Value.int IntKind.i64 (Vec3.x (Part.centre p)), Value.int IntKind.i64 (Vec3.y (Part.centre p)), Value.int IntKind.i64 (Vec3.z (Part.centre p)), Value.int IntKind.i64 (Vec3.x (Part.at_ p)), Value.int IntKind.i64 (Vec3.y (Part.at_ p)), Value.int IntKind.i64 (Vec3.z (Part.at_ p)), Value.int IntKind.i64 (Part.turn p)]] [partV p_3] ∧ InPart p_3 ∧ (ByteArray.size (Part.id p_3) ≤ 200 ∧ ByteArray.size (Part.node p_3) ≤ 200 ∧ ByteArray.size (Part.grade p_3) ≤ 200 ∧ ByteArray.size (Part.sect p_3) ≤ 200 ∧ List.length (Part.outer p_3) ≤ 40 ∧ List.length (Part.holes p_3) ≤ 12 ∧ ∀ (h : List Pt), h ∈ Part.holes p_3 → List.length h ≤ 40) ∧ True ∧ True ∧ pIf (decide (bPart p_2 = bPart p_3)) (True ∧ True ∧ eqL [] [] ∧ True ∧ True ∧ True ∧ True ∧ Post (Value.bool true)) (True ∧ True ∧ True ∧ True ∧ True ∧ Post (Value.bool false))) (True ∧ True ∧ True ∧ True ∧ True ∧ eqL [] [] ∧ True ∧ True ∧ True ∧ True ∧ Post (Value.bool true))) := by kernel_rfl
theorem partEncodes_pure (p : Part) (hp : InPart p) : Pure Tryz.prog 5 [partV p] fun v => v = .bool true := by
  refine pure_P (vc := vcPE) vcPE_ok mixed (by kernel_rfl) (by kernel_rfl) _ (e_PartEncodes p _ _) ?_
  simp only [true_and, pIf_iff, decide_eq_true_eq, decide_eq_false_iff_not, and_true]
  exact ⟨p, rfl, fun h1 => ⟨p, rfl, hp, h1, p, rfl, hp, h1, fun _ => trivial, fun h => absurd rfl h⟩, fun _ => trivial⟩
end Go.Proofs.YtngginofamlkkaaGreatDoor
