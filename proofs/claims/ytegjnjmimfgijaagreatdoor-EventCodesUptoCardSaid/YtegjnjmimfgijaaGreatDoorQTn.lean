/-
  Put together out of several texts, each in its own namespace's block. Conditions: as each theorem states them.
-/
import Derived.Test.YtegjnjmimfgijaaGreatDoorQUc
import Derived.Test.YtegjnjmimfgijaaGreatDoorQVis
import Derived.Test.YtegjnjmimfgijaaGreatDoorQSw
import Derived.Test.YtegjnjmimfgijaaGreatDoorQTf
import Derived.Test.YtegjnjmimfgijaaGreatDoorRows
import Derived.Test.YtegjnjmimfgijaaGreatDoorChecked
import Derived.Test.YtegjnjmimfgijaaGreatDoorQEva
import Derived.MakeChecks
import Derived.OpenShut
import Derived.ChangeBears2
import Derived.Test.YtegjnjmimfgijaaGreatDoorQSm
noncomputable section
namespace Go.Proofs.YtegjnjmimfgijaaGreatDoor
open Go Go.RowKit
set_option maxRecDepth 100000
set_option maxHeartbeats 8000000
theorem size_nil : (⟨#[]⟩ : ByteArray).size = 0 := rfl
theorem offSpot_eq : offSpot = fun s => (off s.at_.x || off s.at_.y || off s.turn) := rfl
theorem offHook_eq : offHook = fun h => (off h.at_.x || off h.at_.y || off h.radius) := rfl
theorem big_eq : big = fun s => decide (64 < s.size) := rfl
theorem law_long {x : Event} (h1 : 1 ≤ x.kind) (h2 : x.kind ≤ 18) (hp : x = plainK x.kind x) : refLong x = longK x.kind x := by
 have h := ev_iff.1 hp
 rcases kinds h1 h2 with hk | hk | hk | hk | hk | hk | hk | hk | hk | hk | hk | hk | hk | hk | hk | hk | hk | hk <;>
  (simp [plainK, evt0, hk, weig_iff] at h; simp [refLong, strL, strL0, longK, hk, h, big_eq, size_nil, List.any_append, List.any_map, Function.comp_def]; try grind)
theorem law_far {x : Event} (h1 : 1 ≤ x.kind) (h2 : x.kind ≤ 18) (hp : x = plainK x.kind x) : refFar x = farK x.kind x := by
 have h := ev_iff.1 hp
 rcases kinds h1 h2 with hk | hk | hk | hk | hk | hk | hk | hk | hk | hk | hk | hk | hk | hk | hk | hk | hk | hk <;>
  (simp [plainK, evt0, hk, weig_iff] at h; simp [refFar, numL, numL0, farK, hk, h, off, List.any_append, List.any_flatMap, offSpot_eq, offHook_eq, Bool.or_assoc]; try grind)
def inlW : List FuncId := inlA ++ [36, 64, 78, 80, 81, 90, 91, 145, 146, 147, 149,
 63, 79, 141, 142, 143, 144]
def baseW : PCall := xtabCall [⟨14, c_EncA⟩] baseA
theorem baseW_ok : PCallOk Tryz.prog baseW := xtabCall_ok (by
 intro e he
 simp only [List.mem_cons, List.not_mem_nil, or_false] at he
 subst he
 exact ok_EncA) baseA_ok
def innerW : PCall := inlP Tryz.prog inlW baseW 12
theorem innerW_ok : PCallOk Tryz.prog innerW := inlP_ok mixed baseW_ok 12
def callWb : PCall := inlP Tryz.prog (16 :: inlW) (inlD Tryz.prog [37] innerW baseW) 12
theorem callWb_ok : PCallOk Tryz.prog callWb := inlP_ok mixed (inlD_ok mixed innerW_ok baseW_ok) 12
abbrev nmA : Array Value := #[Value.agg #[Value.string (ByteArray.mk #[]), Value.string (ByteArray.mk #[111, 114, 100, 101, 114]), Value.string (ByteArray.mk #[115, 104, 101, 101, 116]), Value.string (ByteArray.mk #[98, 97, 114]), Value.string (ByteArray.mk #[98, 117, 121]), Value.string (ByteArray.mk #[110, 101, 115, 116]), Value.string (ByteArray.mk #[115, 97, 119]), Value.string (ByteArray.mk #[115, 99, 114, 97, 112]), Value.string (ByteArray.mk #[102, 105, 116]), Value.string (ByteArray.mk #[119, 101, 108, 100]), Value.string (ByteArray.mk #[105, 110, 115, 112, 101, 99, 116]), Value.string (ByteArray.mk #[114, 101, 112, 97, 105, 114]), Value.string (ByteArray.mk #[112, 97, 99, 107, 97, 103, 101]), Value.string (ByteArray.mk #[119, 101, 105, 103, 104]), Value.string (ByteArray.mk #[101, 114, 101, 99, 116]), Value.string (ByteArray.mk #[112, 101, 114, 109, 105, 116]), Value.string (ByteArray.mk #[116, 101, 115, 116]), Value.string (ByteArray.mk #[108, 97, 117, 110, 99, 104]), Value.string (ByteArray.mk #[100, 101, 108, 105, 118, 101, 114])]]
abbrev bx (s : ByteArray) (a b : Nat) : ByteArray := s.extract a b
abbrev bz (s : ByteArray) : Nat := s.size
abbrev bo (w : Nat) (i : Int) : BitVec w := BitVec.ofInt w i
theorem e_awake  (H : HT) (Post : PX) : vcX Tryz.prog callWb 9 [] [] [] H Post = (let t20 := [vz, vi 0, nS, vz, vi 0, nS, vz, vi 0, vi 0, vi 0, vi 0, vi 0, vi 0, nS, vz, nS, vz, vi 0, vi 0, vi 0]; let t3 := vz :: vz :: vi 0 :: vb false :: vz :: nS :: vz :: vz :: vi 0 :: vi 0 :: vi 0 :: vz :: vz :: vz :: vz :: vi 0 :: vz :: t20; let h20 := fun (t : List Value) => vi 17 :: vi 5 :: vz :: vz :: vz :: vi 0 :: vb false :: vz :: nS :: vz :: vz :: vi 0 :: vi 0 :: vi 0 :: vz :: vz :: vz :: vz :: vi 0 :: vz :: t; let q13 := [Value.agg #[vz, tree 38 0 #[]]]; let q12 := IntKind.bits IntKind.u8; let q8 := ByteArray.mk #[8, 24, 100, 66, 80, 49]; let q3 := bx q8 (Int.toNat 1) (bz q8); let q9 := (w64 (IntKind.wrap IntKind.u8 (↑(BitVec.toNat (bo q12 (↑(UInt8.toNat (Array.getD (ByteArray.data q3) (Int.toNat 0) 0)) : Int) &&& bo q12 31)) : Int)) - 24); let q2 := 1 + w64 (1 * 2 ^ min (Int.toNat (w64 q9)) (IntKind.bits IntKind.i64)); let q11 := bx q3 (Int.toNat (w64 q2)) (bz q3); let q5 := (IntKind.wrap IntKind.u64 (w64 (IntKind.wrap IntKind.u8 (↑(BitVec.toNat (bo q12 (↑(UInt8.toNat (Array.getD (ByteArray.data q11) (Int.toNat 0) 0)) : Int) &&& bo q12 31)) : Int)))); let q1 := bx (bx q11 (Int.toNat 1) (bz q11)) 0 (Int.toNat (w64 q5)); let q4 := ((↑(Lib.countByte (Array.toList (ByteArray.data q1)) 46) : Int) + 1); let q10 := (if w64 ((↑(bz q1) : Int) + 1) < w64 q4 then w64 ((↑(bz q1) : Int) + 1) else w64 q4); let q7 := (Value.agg #[vz, vi 0, vi 0, vi 0, vi 0, vi 0, vi 0, nS] = Value.agg #[vz, vi 0, vi 0, vi 0, vi 0, vi 0, vi 0, nS] ∧ True) ∧ True; let q6 := (IntKind.wrap IntKind.u64 (w64 (IntKind.wrap IntKind.u8 (↑(BitVec.toNat (bo q12 (↑(UInt8.toNat (Array.getD (ByteArray.data q8) (Int.toNat 0) 0)) : Int) &&& bo q12 31)) : Int)))); T2 (eqL [Value.agg (h20 t20).toArray] [Value.agg #[nilV (vi evtL.kind), nilV (vi evtL.at_), nilV (vs evtL.item), nilV (vs evtL.of_), nilV (vs evtL.by_), nilV (vi evtL.n), nilV (vb evtL.pass), nilV (vs evtL.order.id), nilV (tree 38 0 (encL evtL.order.edits)), nilV (vs evtL.sheet.id), nilV (vs evtL.sheet.grade), nilV (vi evtL.sheet.thick), nilV (vi evtL.sheet.long), nilV (vi evtL.sheet.width), nilV (vs evtL.sheet.heat), nilV (vs evtL.bar.id), nilV (vs evtL.bar.sect), nilV (vs evtL.bar.grade), nilV (vi evtL.bar.long), nilV (vs evtL.bar.heat), nilV (vs evtL.nest.sheet), nilV (vi evtL.nest.gap), nilV (tree 5 0 (encL evtL.nest.spots)), nilV (vs evtL.saw.bar), nilV (vi evtL.saw.kerf), nilV (tree 1 0 (encL evtL.saw.parts)), nilV (vs evtL.weig.block), nilV (vi evtL.weig.at_), nilV (vi evtL.weig.mass), nilV (vi evtL.weig.centre.x), nilV (vi evtL.weig.centre.y), nilV (vi evtL.weig.centre.z), nilV (vi evtL.weig.sigma), nilV (tree 1 0 (encL evtL.weig.parts)), nilV (vs evtL.lift.block), nilV (tree 4 0 (encL evtL.lift.hooks)), nilV (vs evtL.permit.id), nilV (vi evtL.permit.kind), nilV (vi evtL.permit.time.a), nilV (vi evtL.permit.time.b)]] ∧ 0 = 0 ∧ T4 (T2 (eqL [Value.agg (vi 8 :: vi 100 :: vs (ByteArray.mk #[80, 49]) :: t3).toArray] [Value.agg #[nilV (vi evtF.kind), nilV (vi evtF.at_), nilV (vs evtF.item), nilV (vs evtF.of_), nilV (vs evtF.by_), nilV (vi evtF.n), nilV (vb evtF.pass), nilV (vs evtF.order.id), nilV (tree 38 0 (encL evtF.order.edits)), nilV (vs evtF.sheet.id), nilV (vs evtF.sheet.grade), nilV (vi evtF.sheet.thick), nilV (vi evtF.sheet.long), nilV (vi evtF.sheet.width), nilV (vs evtF.sheet.heat), nilV (vs evtF.bar.id), nilV (vs evtF.bar.sect), nilV (vs evtF.bar.grade), nilV (vi evtF.bar.long), nilV (vs evtF.bar.heat), nilV (vs evtF.nest.sheet), nilV (vi evtF.nest.gap), nilV (tree 5 0 (encL evtF.nest.spots)), nilV (vs evtF.saw.bar), nilV (vi evtF.saw.kerf), nilV (tree 1 0 (encL evtF.saw.parts)), nilV (vs evtF.weig.block), nilV (vi evtF.weig.at_), nilV (vi evtF.weig.mass), nilV (vi evtF.weig.centre.x), nilV (vi evtF.weig.centre.y), nilV (vi evtF.weig.centre.z), nilV (vi evtF.weig.sigma), nilV (tree 1 0 (encL evtF.weig.parts)), nilV (vs evtF.lift.block), nilV (tree 4 0 (encL evtF.lift.hooks)), nilV (vs evtF.permit.id), nilV (vi evtF.permit.kind), nilV (vi evtF.permit.time.a), nilV (vi evtF.permit.time.b)]] ∧ 0 = 0 ∧ T32 (T16 (T8 (T4 (True ∧ (toI (vi 0) ≤ 0 ∧ toI (vi 0) < (↑(bz q8) : Int)) ∧ toI (vi 0) ≤ 5 ∧ T4 (T2 (True ∧ (toI (vi 0) ≤ 0 ∧ toI (vi 0) < (↑(bz q8) : Int)) ∧ T32 (T2 (toI (vi 0) ≤ 63 ∧ T16 (T8 (2 ≤ 2 ∧ T8 (True ∧ (True ∧ toI (vi 0) ≤ 1 ∧ 1 ≤ 6 ∧ 6 ≤ 6) ∧ T2 (True ∧ 1 ≤ 2 ∧ T2 (True ∧ 1 ≤ 40 ∧ T32 (T16 (T8 (True ∧ (toI (vi 0) ≤ 0 ∧ toI (vi 0) < (↑(bz q3) : Int)) ∧ toI (vi 0) ≤ 5 ∧ T4 (T2 (True ∧ (toI (vi 0) ≤ 0 ∧ toI (vi 0) < (↑(bz q3) : Int)) ∧ T16 (toI (vi 0) ≤ w64 q9 ∧ T16 ((toI (vi 0) ≤ w64 q2 ∧ toI (vi 0) ≤ 1 ∧ 1 ≤ 2 ∧ 2 ≤ 5) ∧ T4 ((toI (vi 0) ≤ 0 ∧ toI (vi 0) < (↑(bz (bx q3 (Int.toNat 1) (Int.toNat (w64 q2)))) : Int)) ∧ T2 (True ∧ toI (vi 0) ≤ 8 ∧ T8 (T4 (T2 (True ∧ (toI (vi 0) ≤ w64 q2 ∧ True ∧ 0 ≤ 2 ∧ 2 ≤ 5) ∧ T2 (toI (vi 0) ≤ 5 ∧ T8 (T2 (toI (vi 0) ≤ 0 ∧ toI (vi 0) ≤ IntKind.wrap IntKind.u64 (8 * 2 ^ min (Int.toNat 0) (IntKind.bits IntKind.u64)) ∧ T8 (True ∧ 1 ≤ 1 ∧ 1 ≤ 33554432 ∧ true = true ∧ 1 = 1 ∧ T2 (toI (vi 0) ≤ 0 ∧ T4 (T2 (True ∧ toI (vi 0) ≤ w64 (w64 (8 * 2 ^ min (Int.toNat 0) (IntKind.bits IntKind.i64)) - 8) ∧ T2 (1 ≤ 1 ∧ 2 ≤ 33554432 ∧ true = true ∧ 1 = 1 ∧ 1 = 1 ∧ T8 (((vs (bx q8 1 6) = vs (bx q8 1 6) ∧ True) ∧ True) ∧ (2 ≤ 2 ∧ AllU8 [Value.int IntKind.u8 (IntKind.wrap IntKind.u8 (↑24 : Int)), Value.int IntKind.u8 (IntKind.wrap IntKind.u8 (Int.fdiv (IntKind.wrap IntKind.u64 (↑100 : Int)) (2 ^ 0)))]) ∧ T16 (T4 (True ∧ toI (vi 0) ≤ 63 ∧ T16 (T8 (2 ≤ 2 ∧ T8 (True ∧ (True ∧ toI (vi 0) ≤ w64 q2 ∧ 2 ≤ 5 ∧ 5 ≤ 5) ∧ T2 (True ∧ 1 ≤ 2 ∧ T2 (True ∧ 2 ≤ 40 ∧ T32 (T32 (T16 (T4 (T2 (True ∧ (toI (vi 0) ≤ 0 ∧ toI (vi 0) < (↑(bz q11) : Int)) ∧ toI (vi 0) ≤ 5 ∧ T4 (T2 (True ∧ (toI (vi 0) ≤ 0 ∧ toI (vi 0) < (↑(bz q11) : Int)) ∧ T32 (T16 (T8 (T4 (T2 (2 ≤ 2 ∧ T8 (True ∧ (True ∧ toI (vi 0) ≤ 1 ∧ 1 ≤ 3 ∧ 3 ≤ 3) ∧ T2 (True ∧ 1 ≤ 2 ∧ T8 (T4 ((toI (vi 0) ≤ w64 q5 ∧ True ∧ 0 ≤ 2 ∧ 2 ≤ 2) ∧ T8 ((True ∧ toI (vi 0) ≤ w64 q5 ∧ 2 ≤ 2 ∧ 2 ≤ 2) ∧ T2 (True ∧ 1 ≤ 2 ∧ T2 (True ∧ 3 ≤ 40 ∧ T32 (T16 (T8 (T4 (40 ≤ 40 ∧ True ∧ 1 ≤ 1 ∧ T4 (T2 (True ∧ 40 ≤ 40 ∧ T16 ((toI (vi 0) ≤ w64 q6 ∧ toI (vi (w64 q6)) < (↑19 : Int)) ∧ vs (ByteArray.mk #[102, 105, 116]) = vs (toS (cellAt nmA 0 (0 + 8))) ∧ T32 (T8 (T4 (T2 (True ∧ 3 ≤ 40 ∧ T2 (1 ≤ 40 ∧ True ∧ 2 ≤ 40 ∧ T8 (T2 (True ∧ 8 ≤ 8 ∧ q7 ∧ 8 ≤ 8 ∧ T32 (T32 (T32 (T32 (T32 (T32 (T32 (T8 (T2 (((T2 (True)) ∧ True) ∧ ∃ (o : Order2), eqL q13 [order2V o] ∧ InOrder o ∧ FewO o ∧ ((Value.agg #[vz, nS] = Value.agg #[vz, nS] ∧ True) ∧ True) ∧ ((T2 (True)) ∧ True) ∧ ∃ (o_1 : Order2), eqL q13 [order2V o_1] ∧ InOrder o_1 ∧ FewO o_1 ∧ T2 (pIf (decide (bOrder o = bOrder o_1)) (T32 (T8 ((T2 (True)) ∧ ByteArray.mk #[46] = dot ∧ T8 (True ∧ ((toI (vi 0) ≤ if w64 ((↑(bz q1) : Int) + 1) < w64 q4 then w64 ((↑(bz q1) : Int) + 1) else w64 q4) ∧ (toI (vi q10) ≤ if w64 ((↑(bz q1) : Int) + 1) < w64 q4 then w64 ((↑(bz q1) : Int) + 1) else w64 q4) ∧ toI (vi q10) ≤ 2 ^ 25) ∧ T8 (T2 (True ∧ (toI (vi 0) ≤ 0 ∧ toI (vi 0) < (↑(Int.toNat q10) : Int)) ∧ 1 ≤ 1 ∧ T2 (True ∧ (toI (vi 0) ≤ w64 (0 + 1) ∧ True ∧ 0 ≤ 1 ∧ 1 ≤ 1) ∧ T8 (T2 (True ∧ (toI (vi 0) ≤ 0 ∧ toI (vi 0) < (↑(Int.toNat (w64 (0 + 1)) - 0) : Int)) ∧ T32 (T32 (T32 (T32 (T16 (T8 (T2 (True ∧ 1 ≤ 2 ∧ T8 (T4 (40 ≤ 40 ∧ T4 (True ∧ 40 ≤ 40 ∧ T32 (T4 (T2 ((toI (vi 0) ≤ 14 ∧ toI (vi 14) < (↑19 : Int)) ∧ vs (ByteArray.mk #[101, 114, 101, 99, 116]) = vs (toS (cellAt nmA 0 (0 + 14))) ∧ T16 (True ∧ (toI (vi 0) ≤ 8 ∧ toI (vi 8) < (↑19 : Int)) ∧ vs (ByteArray.mk #[102, 105, 116]) = vs (toS (cellAt nmA 0 (0 + 8))) ∧ T32 (T8 (T4 (T2 (True ∧ 3 ≤ 40 ∧ T2 (1 ≤ 40 ∧ True ∧ 2 ≤ 40 ∧ T8 (T2 (True ∧ 8 ≤ 8 ∧ q7 ∧ 8 ≤ 8 ∧ T32 (T32 (T4 (8 ≤ 8 ∧ q7 ∧ 8 ≤ 8 ∧ T32 (T32 (T32 (T32 (T32 (T32 (T32 (T8 (T2 (((T2 (True)) ∧ True) ∧ ∃ (o : Order2), eqL q13 [order2V o] ∧ InOrder o ∧ FewO o ∧ ((Value.agg #[vz, nS] = Value.agg #[vz, nS] ∧ True) ∧ True) ∧ ((T2 (True)) ∧ True) ∧ ∃ (o_2 : Order2), eqL q13 [order2V o_2] ∧ InOrder o_2 ∧ FewO o_2 ∧ T2 (pIf (decide (bOrder o = bOrder o_2)) (T4 ((True ∧ True) ∧ true = true ∧ Post (Out.ret (vb true)) [])) (T4 ((True ∧ True) ∧ true = true ∧ Post (Out.ret (vb false)) []))))))))))))))))))))))))))))))))))))))))))))) (T8 (T2 (True ∧ 40 ≤ 40 ∧ T4 (True ∧ 40 ≤ 40 ∧ T16 (T8 (T2 ((True ∧ True) ∧ true = true ∧ Post (Out.ret (vb false)) []))))))))))))))))))))))))))))))))))))))))))))))))))))))))))))))))))))))))))))))))))))))))))))))) := by kernel_rfl
theorem spec_awake : SpecX Tryz.prog 9 0 (hpOf []) [] (xpost 0 fun r c => r = .ret (.bool true) ∧ c = []) := by
 refine spec_X (conts := []) callWb_ok mixed (by kernel_rfl) (by kernel_rfl) [] (e_awake _ _) ?_
 repeat' (first
  | exact rfl
  | refine And.intro ?_ ?_
  | refine ⟨⟨⟨#[]⟩, []⟩, ?_, zero_inO, zero_fewO, ?_⟩
  | refine pIf_same ?_
  | trivial
  | exact AllU8.nil
  | refine AllU8.cons ⟨_, rfl⟩ ?_
  | decide
  | kernel_rfl)
def c_awake (args : List Value) (Post : Value → Prop) : Prop := args = [] ∧ Post (.bool true)
theorem ok_awake : EntOk Tryz.prog ⟨9, c_awake⟩ := by
 rintro args Post ⟨rfl, h⟩
 refine B.pure_of_X ?_
 intro W ρ w args' h1 h2 h3
 refine (spec_awake W ρ w args' h1 h2 h3).mono fun e w' ⟨r, hp', nx', ρ', g1, g2⟩ => ⟨r, hp', nx', ρ', ?_, g2⟩
 unfold xpost at g1 ⊢
 split at g1
 ·obtain ⟨k1, rfl, rfl⟩ := g1
  exact ⟨k1, h⟩
 ·exact g1.elim
theorem check_eq (x : Event) : refE x = checkE x := by
 unfold refE checkE
 split
 ·rfl
 rename_i hk
 have hk : 1 ≤ x.kind ∧ x.kind ≤ 18 := Decidable.not_not.1 hk
 split
 ·rfl
 split
 ·rfl
 rename_i hp
 have hp := Decidable.not_not.1 hp
 rw [law_long hk.1 hk.2 hp, law_far hk.1 hk.2 hp]
theorem vol_item (x : Event) : Vol.vol x.item ≤ Vol.vol x := by
 have e : Vol.vol x = 1 + (Vol.vol x.kind + (Vol.vol x.at_ + (Vol.vol x.item + (Vol.vol x.of_ + (Vol.vol x.by_ + (Vol.vol x.n + (Vol.vol x.pass + (Vol.vol x.order + (Vol.vol x.sheet + (Vol.vol x.bar + (Vol.vol x.nest + (Vol.vol x.saw + (Vol.vol x.weig + (Vol.vol x.lift + (Vol.vol x.permit + 0))))))))))))))) := rfl
 omega
theorem GoodEv.item {x : Event} (h : GoodEv x) : x.item.size < 16777000 := by
 have h1 : 1 + x.item.size ≤ 1048576 := Nat.le_trans (vol_item x) h.vol
 omega
theorem few_1k {x : Event} {m : Int} (f : few59 x m) (hm : m ≤ 1000) : Few1k x := by
 obtain ⟨_, f4, f5, f6, _⟩ := f
 exact ⟨by omega, by omega, by omega⟩
theorem enc_eq (x : Event) : rencR x = encR x := by
 unfold rencR encR
 rw [check_eq]
def vcED : VCall := tabCall [⟨8, c_Few59⟩, ⟨14, c_enc⟩, ⟨15, c_renc⟩, ⟨16, c_dec⟩, ⟨17, c_rSame⟩, ⟨9, c_awake⟩] noCall
theorem vcED_ok : VCallOk Tryz.prog vcED := tabCall_ok (by
 intro e he
 simp only [List.mem_cons, List.not_mem_nil, or_false] at he
 rcases he with rfl | rfl | rfl | rfl | rfl | rfl
 ·exact ok_few59
 ·exact ok_enc
 ·exact ok_renc
 ·exact ok_dec
 ·exact ok_rSame
 ·exact ok_awake) noCall_ok
theorem e_EventCodes (x : Event) (H : HT) (Post : PV) : vcP Tryz.prog vcED 4 [] [eventV x] H Post = (T2 (True ∧ ∃ (x_1 : Event), ∃ (m : Int), eqL [Value.agg (evK x.kind x).toArray, vi 60] [eventV x_1, vi m] ∧ m ≤ 1000 ∧ pIf (decide (few59 x_1 m)) (T2 (∃ (x_2 : Event), eqL [Value.agg (evK x.kind x).toArray] [eventV x_2] ∧ ShortEv x_2 ∧ InOrder x_2.order ∧ FewO x_2.order ∧ x_2.item.size < 16777000 ∧ ByteArray.size (bOrder x_2.order) ≤ 16000000 ∧ T4 (T2 (∃ (x_3 : Event), eqL [Value.agg (evK x.kind x).toArray] [eventV x_3] ∧ ShortEv x_3 ∧ Few1k x_3 ∧ x_3.item.size < 16777000 ∧ InOrder x_3.order ∧ FewO x_3.order ∧ ByteArray.size (bOrder x_3.order) ≤ 16000000 ∧ (refE x_3 = 0 → 1 ≤ x_3.kind ∧ x_3.kind ≤ 18 ∧ 0 ≤ x_3.at_ ∧ x_3.at_ ≤ 1048576 ∧ FitEv x_3) ∧ T8 (pIf (!decide (Prod.fst (encR x_2) = Prod.fst (rencR x_3))) (T4 (Post (vb false))) (T4 (pIf (!decide (Prod.snd (encR x_2) = Prod.snd (rencR x_3))) (T2 (True ∧ Post (vb false))) (T2 (True ∧ pIf (!decide (Prod.snd (encR x_2) = 0)) (T2 (eqL [] [] ∧ T2 (Post (vb true)))) (T4 (pIf (decide (x.kind = 1)) (True ∧ eqL [] [] ∧ T2 (Post (vb true))) (T2 (∃ (s : ByteArray), eqL [vs (Prod.fst (encR x_2))] [vs s] ∧ s.size < 4611686018427387904 ∧ (∀ (k : Int) (r : ByteArray), rsI 1 18 s = Rs.ok k r → k = 1 → False) ∧ T4 (40 ≤ 40 ∧ T2 (True ∧ pIf (decide (Prod.snd (decR s) = 0)) (T2 (True ∧ ∃ (a : Event), ∃ (b : Event), eqL [Value.agg (evK x.kind x).toArray, Value.agg #[vi (Event.kind (Prod.fst (decR s))), vi (Event.at_ (Prod.fst (decR s))), vs (Event.item (Prod.fst (decR s))), vs (Event.of_ (Prod.fst (decR s))), vs (Event.by_ (Prod.fst (decR s))), vi (Event.n (Prod.fst (decR s))), vb (Event.pass (Prod.fst (decR s))), vs (Order2.id (Event.order (Prod.fst (decR s)))), tree 38 (List.length (Order2.edits (Event.order (Prod.fst (decR s))))) (encL (Order2.edits (Event.order (Prod.fst (decR s))))), vs (Sheet6.id (Event.sheet (Prod.fst (decR s)))), vs (Sheet6.grade (Event.sheet (Prod.fst (decR s)))), vi (Sheet6.thick (Event.sheet (Prod.fst (decR s)))), vi (Sheet6.long (Event.sheet (Prod.fst (decR s)))), vi (Sheet6.width (Event.sheet (Prod.fst (decR s)))), vs (Sheet6.heat (Event.sheet (Prod.fst (decR s)))), vs (Bar5.id (Event.bar (Prod.fst (decR s)))), vs (Bar5.sect (Event.bar (Prod.fst (decR s)))), vs (Bar5.grade (Event.bar (Prod.fst (decR s)))), vi (Bar5.long (Event.bar (Prod.fst (decR s)))), vs (Bar5.heat (Event.bar (Prod.fst (decR s)))), vs (Nest3.sheet (Event.nest (Prod.fst (decR s)))), vi (Nest3.gap (Event.nest (Prod.fst (decR s)))), tree 5 (List.length (Nest3.spots (Event.nest (Prod.fst (decR s))))) (encL (Nest3.spots (Event.nest (Prod.fst (decR s))))), vs (Saw3.bar (Event.saw (Prod.fst (decR s)))), vi (Saw3.kerf (Event.saw (Prod.fst (decR s)))), tree 1 (List.length (Saw3.parts (Event.saw (Prod.fst (decR s))))) (encL (Saw3.parts (Event.saw (Prod.fst (decR s))))), vs (Weig.block (Event.weig (Prod.fst (decR s)))), vi (Weig.at_ (Event.weig (Prod.fst (decR s)))), vi (Weig.mass (Event.weig (Prod.fst (decR s)))), vi (Vec3.x (Weig.centre (Event.weig (Prod.fst (decR s))))), vi (Vec3.y (Weig.centre (Event.weig (Prod.fst (decR s))))), vi (Vec3.z (Weig.centre (Event.weig (Prod.fst (decR s))))), vi (Weig.sigma (Event.weig (Prod.fst (decR s)))), tree 1 (List.length (Weig.parts (Event.weig (Prod.fst (decR s))))) (encL (Weig.parts (Event.weig (Prod.fst (decR s))))), vs (Lift2.block (Event.lift (Prod.fst (decR s)))), tree 4 (List.length (Lift2.hooks (Event.lift (Prod.fst (decR s))))) (encL (Lift2.hooks (Event.lift (Prod.fst (decR s))))), vs (Permit3.id (Event.permit (Prod.fst (decR s)))), vi (Permit3.kind (Event.permit (Prod.fst (decR s)))), vi (Span2.a (Permit3.time (Event.permit (Prod.fst (decR s))))), vi (Span2.b (Permit3.time (Event.permit (Prod.fst (decR s)))))]] [eventV a, eventV b] ∧ ShortEv a ∧ pIf (decide (a = b)) (T2 (eqL [] [] ∧ T2 (True ∧ Post (vb true)))) (T4 (True ∧ Post (vb false))))) (T4 (T2 (Post (vb false))))))))))))))))))) (True ∧ eqL [] [] ∧ T2 (Post (vb true))))) := by kernel_rfl
theorem order_size {x : Event} (hx : GoodEv x) (h1 : few59 x 60) (f : FewO x.order) : (bOrder x.order).size ≤ 16000000 := by
 obtain ⟨⟨_, f2, _⟩, _⟩ := h1
 have hv : volO x.order ≤ 1048576 := Nat.le_trans (volO_le x.order) (Nat.le_trans (vol_order x) hx.vol)
 have hb := bEdits_size f x.order.edits.length
 clear hx
 generalize volO x.order = v at hv hb
 unfold bOrder
 omega
theorem eventCodes_pure (x : Event) (hx : GoodEv x) : Pure Tryz.prog 4 [eventV x] fun v => v = .bool true := by
 refine pure_P (vc := vcED) vcED_ok mixed (by kernel_rfl) (by kernel_rfl) _ (e_EventCodes x _ _) ?_
 simp only [true_and, and_true]
 refine ⟨x, 60, rfl, by decide, pIf_intro (fun h1 => ?_) (fun _ => ?_)⟩
 case refine_2 => repeat' (first | exact rfl | exact trivial | refine And.intro ?_ ?_)
 have h1 := of_decide_eq_true h1
 have s := few_shortEv h1 (by decide)
 have f := few_fewO hx h1 (by decide)
 have k := few_1k h1 (by decide)
 have hb := order_size hx h1 f
 have hg : checkE x = 0 → 1 ≤ x.kind ∧ x.kind ≤ 18 ∧ 0 ≤ x.at_ ∧ x.at_ ≤ 1048576 ∧ FitEv x := fun c => by
  obtain ⟨k1, k2, a1, a2, _, hl, hf⟩ := check0 c
  exact ⟨k1, k2, a1, a2, ⟨(fits_all k1 k2 hl hf).1, (fits_all k1 k2 hl hf).2⟩⟩
 refine ⟨x, rfl, s, hx.inO, f, hx.item, hb, x, rfl, s, k, hx.item, hx.inO, f, hb, fun c => hg (by rw [← check_eq]; exact c), ?_⟩
 rw [enc_eq]
 refine pIfN (fun hh => absurd rfl hh) (fun _ => pIfN (fun hh => absurd rfl hh) (fun _ => pIfN (fun hh => ?_) (fun hh => pIfD (fun hk => ?_) (fun hk => ?_))))
 ·repeat' (first | exact rfl | exact trivial | refine And.intro ?_ ?_)
 ·repeat' (first | exact rfl | exact trivial | refine And.intro ?_ ?_)
 have c : checkE x = 0 := by
  unfold encR at hh
  split at hh
  ·assumption
  ·exact hh
 have he : encR x = (bEv x, 0) := by unfold encR; rw [if_pos c]
 obtain ⟨k1, k2, a1, a2, hf⟩ := hg c
 obtain ⟨_, _, _, _, hp, _, _⟩ := check0 c
 obtain ⟨r1, r, r2⟩ := rdEv_b (by omega) k2 ⟨a1, a2⟩ hp hf.fit hf.lists
 have hd : decR (bEv x) = (x, 0) := by
  unfold decR
  rw [r1]
  dsimp only
  rw [if_pos c]
 have hsz : (bEv x).size < 4611686018427387904 := by
  have i1 := bInt_size x.kind
  have i2 := bInt_size x.at_
  have i3 := body_size k1 k2 hf hb
  unfold bEv
  simp only [ba_size]
  omega
 rw [he]
 refine ⟨bEv x, rfl, hsz, fun k r' e hk1 => ?_, ?_⟩
 ·rw [r2] at e
  cases e
  exact hk hk1
 rw [hd]
 repeat' (first
  | exact rfl
  | exact trivial
  | decide
  | refine pIfD (fun _ => ?_) (fun hh => absurd rfl hh)
  | refine ⟨x, x, rfl, s, ?_⟩
  | refine And.intro ?_ ?_)
end Go.Proofs.YtegjnjmimfgijaaGreatDoor
namespace Go.Proofs.YtegjnjmimfgijaaGreatDoor
open Go Go.RowKit Go.ChangeShapes
set_option maxRecDepth 100000
theorem cs_pieces {z : Nat} : ∀ {c : List (List Value)} {cs : List Value}, cs.length = c.length * z → (∀ i p, c[i]? = some p → (cs.drop (i * z)).take z = p) → cs = c.flatten
 | [], cs, hl, _ => by simp at hl; simp [hl]
 | a :: c, cs, hl, h => by
  have h0 := h 0 a rfl
  simp only [Nat.zero_mul, List.drop_zero] at h0
  have ih := cs_pieces (z := z) (c := c) (cs := cs.drop z) (by rw [List.length_drop, hl, List.length_cons, Nat.succ_mul]; omega) fun i p hp => by
   rw [List.drop_drop]
   have := h (i + 1) p (by simpa using hp)
   rwa [Nat.succ_mul, Nat.add_comm] at this
  rw [List.flatten_cons, ← ih, ← h0, List.take_append_drop]
def flat1 : DataW Unit → List Value
 | .lit (.string b) => [.string ⟨b.toArray⟩]
 | .lit (.int k n) => [.int k n]
 | _ => []
def flat2 : DataW Unit → List Value
 | .agg l => l.flatMap flat1
 | d => flat1 d
section
variable {enc : TypeId × Value → Unit} {P : Program} {w : World} {base : Nat} {spare : Nat → Bool} {held : Bool} {fuel : Nat} {t e : TypeId} {cs : List Value} {x : DataW Unit × List MemPlace}
theorem flat_string (ht : P.underlying t = some .string) (h : DataW.trod enc P w base spare held fuel t cs = some x) : cs = flat1 x.1 := by
 obtain ⟨s, rfl, rfl, _⟩ := DataW.trod_string ht h
 simp [flat1]
theorem flat_int {k : IntKind} (ht : P.underlying t = some (.int k)) (h : DataW.trod enc P w base spare held fuel t cs = some x) : cs = flat1 x.1 := by
 obtain ⟨s, rfl, rfl, _⟩ := DataW.trod_int ht h
 rfl
theorem flat_array {n : Nat} {F : DataW Unit → List Value} (ht : P.underlying t = some (.array n e)) (hz : P.cellsOf t = n * P.cellsOf e) (h : DataW.trod enc P w base spare held fuel t cs = some x)
  (hF : ∀ fuel cs x, DataW.trod enc P w base spare held fuel e cs = some x → cs = F x.1) : ∃ l, x.1 = .agg l ∧ cs = (l.map F).flatten := by
 obtain ⟨xs, m, _, rfl, hl, hxl, hi⟩ := DataW.trod_array ht h
 refine ⟨_, rfl, cs_pieces (z := P.cellsOf e) (by rw [List.length_map, List.length_map, hxl, hl, hz]) fun i p hp => ?_⟩
 rw [List.getElem?_map, List.getElem?_map] at hp
 cases hx : xs[i]? with
 | none => rw [hx] at hp; cases hp
 | some y =>
  rw [hx] at hp
  simp only [Option.map_some, Option.some.injEq] at hp
  subst hp
  have hin : i < n := by
   rw [← hxl]
   rcases Nat.lt_or_ge i xs.length with h' | h'
   ·exact h'
   ·rw [List.getElem?_eq_none h'] at hx; cases hx
  exact hF _ _ _ ((hi i hin).trans hx)
theorem flat_pair {f0 f1 : Field} (ht : P.underlying t = some (.struct #[f0, f1])) (hz : P.cellsOf t = 2) (h0 : f0.offset = 0) (h1 : f1.offset = 1) (c0 : P.cellsOf f0.type = 1) (c1 : P.cellsOf f1.type = 1) {k : IntKind}
  (u0 : P.underlying f0.type = some (.int k)) (u1 : P.underlying f1.type = some (.int k)) (h : DataW.trod enc P w base spare held fuel t cs = some x) : cs = flat2 x.1 := by
 obtain ⟨y0, y1, n, rfl, hl, g0, g1⟩ := trod_struct2 ht h
 rw [h0, c0] at g0
 rw [h1, c1] at g1
 have e0 := flat_int u0 g0
 have e1 := flat_int u1 g1
 match cs, hl.trans hz with
 | [a, b], _ =>
  simp at e0 e1
  show [a, b] = [y0.1, y1.1].flatMap flat1
  simp [← e0, ← e1]
end
theorem glob_laid {W : World} (h : laidMetH Tryz.prog Rows.eventSamesRow.laid W) : ∀ g cs, glob g = some cs → ∃ t fz, W.heap[g]? = some (.cells cs t fz) := by
 rw [MakeChecks.laidMetH_plain _ _ _ (by kernel_rfl)] at h
 obtain ⟨ps, ⟨g, t, cs, fuel, p, q, hg, ht, hv, htr, ⟨g', t', cs', fuel', p', q', hg', ht', hv', htr', _⟩, _⟩, _, _⟩ := h
 have heap : ∀ {n : String} {g : Nat} {cs : Array Value}, Tryz.prog.globalNamed n = some g → W.var? Tryz.prog n = some cs → ∃ t fz, W.heap[g]? = some (.cells cs t fz) := fun {n g cs} hg hv => by
  simp only [World.var?, hg, Option.bind_some] at hv
  split at hv
  ·rename_i c t fz hh
   cases hv
   exact ⟨t, fz, hh⟩
  ·cases hv
 obtain rfl : 3 = g := Option.some.inj ((show Tryz.prog.globalNamed "unicode/utf8.acceptRanges" = some 3 by kernel_rfl).symm.trans hg)
 obtain rfl : 0 = g' := Option.some.inj ((show Tryz.prog.globalNamed "shipyard/event.names" = some 0 by kernel_rfl).symm.trans hg')
 obtain rfl : 195 = t := Option.some.inj ((show (Tryz.prog.globals[3]?).map (·.type) = some 195 by kernel_rfl).symm.trans ht)
 obtain rfl : 73 = t' := Option.some.inj ((show (Tryz.prog.globals[0]?).map (·.type) = some 73 by kernel_rfl).symm.trans ht')
 obtain ⟨l, hl, hc⟩ := flat_array (F := flat2) Tryz.underlying195 (by kernel_rfl) htr fun fuel cs x hx => flat_pair Tryz.underlying194 (by kernel_rfl) rfl rfl (by kernel_rfl) (by kernel_rfl) Tryz.underlying5 Tryz.underlying5 hx
 obtain ⟨l', hl', hc'⟩ := flat_array (F := flat1) Tryz.underlying73 (by kernel_rfl) htr' fun fuel cs x hx => flat_string Tryz.underlying9 hx
 cases hl
 cases hl'
 intro k c hk
 unfold glob at hk
 cases h0 : k.beq 0 with
 | true =>
  rw [h0, cond_true] at hk
  obtain rfl := Nat.eq_of_beq_eq_true h0
  cases hk
  have := heap hg' hv'
  rwa [show cs' = _ from Array.toList_inj.1 (hc'.trans (by kernel_rfl))] at this
 | false =>
  rw [h0, cond_false] at hk
  cases h1 : k.beq 3 with
  | false => rw [h1] at hk; cases hk
  | true =>
   rw [h1, cond_true] at hk
   obtain rfl := Nat.eq_of_beq_eq_true h1
   cases hk
   have := heap hg hv
   rwa [show cs = _ from Array.toList_inj.1 (hc.trans (by kernel_rfl))] at this
end Go.Proofs.YtegjnjmimfgijaaGreatDoor

namespace Go.Proofs.YtegjnjmimfgijaaGreatDoor
open Go Go.RowKit Go.ChangeShapes Go.WideShapes Go.ChangeAt Go.Deep Go.Joins
theorem Tryz.own : ownKnob Tryz.prog.godebug = none := by kernel_rfl
theorem Tryz.laidOut : laidOutB Tryz.prog = true := by kernel_rfl
theorem trodAll_stays {H : Type} {enc : TypeId × Value → H} {P : Program} {W W' : World} {sp' : Nat → Bool} (hl : laidOutB P = true) : ∀ {ts : List TypeId} {vs : List Value} {ds : List (DataW H)} {ps : List MemPlace},
  (ts.all fun t => P.readableRec t && decide (t < P.types.size)) = true → DataW.TrodAll enc P W 0 (fun _ => true) true ts vs ds ps → (∀ p ∈ ps, W.sameAt W' p) → (∀ p ∈ ps, sp' p.block = true) →
  DataW.TrodAll enc P W' 0 sp' true ts vs ds ps := by
 intro ts
 induction ts with
 | nil =>
  intro vs ds ps _ h _ _
  obtain ⟨rfl, rfl, rfl⟩ := trodAll_nil h
  exact trodAll_mk0
 | cons t ts ih =>
  intro vs ds ps hr h hs hp
  obtain ⟨v, vs', d, ds', p, q, rfl, rfl, rfl, hd, hrest⟩ := trodAll_cons h
  simp only [List.all_cons, Bool.and_eq_true, decide_eq_true_eq] at hr
  exact trodAll_cons_mk (WideElems.Trod_stays hl hr.1.1 hr.1.2 hd (fun x hx => hs x (by simp [hx])) (fun x hx => hp x (by simp [hx])))
   (ih hr.2 hrest (fun x hx => hs x (by simp [hx])) (fun x hx => hp x (by simp [hx])))
end Go.Proofs.YtegjnjmimfgijaaGreatDoor

