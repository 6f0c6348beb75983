/-
  Put together out of several texts, each in its own namespace's block. Conditions: as each theorem states them.
-/
import Derived.Test.YtngginofamlkkaaGreatDoorRows
import Derived.Test.YtngginofamlkkaaGreatDoorCards
import Derived.Test.YtngginofamlkkaaGreatDoorTie
import Derived.Test.YtngginofamlkkaaGreatDoorQMw
import Derived.SevenTiedAt
import Derived.Deep.DeepHandedRow
import Derived.Lay
import Derived.MakeChecks
import Derived.JoinedCond
namespace Go.Proofs.YtngginofamlkkaaGreatDoor
open Go Go.RowKit Go.ChangeShapes Go.WideShapes Go.ChangeAt Go.Deep Go.Joins
def witWeightParts0 : Value := .agg #[.string ByteArray.empty, .slice none 0 0, .slice none 0 0, .slice none 0 0, .slice none 0 0, .slice none 0 0]
def witWeightParts1 : Value := .agg #[.slice none 0 0, .slice none 0 0]
theorem weightParts_reads (os : Os) {H : Type} (enc : TypeId × Value → H) : ∃ places, DataW.whole enc Tryz.prog ((World.laidAll Tryz.prog os Rows.weightPartsRow.laid).forCall (fun _ _ => 0) ⟨#[], #[witWeightParts0, witWeightParts1, .slice none 0 0], []⟩).memory Tryz.f11.params.toList Rows.weightPartsSpec.vars false (#[witWeightParts0, witWeightParts1, .slice none 0 0] : Array Value).toList 8 = some ([.agg [.lit (.string []), .nil, .nil, .nil, .nil, .nil], .agg [.nil, .nil], .nil], [], places) :=
 ⟨[], by kernel_rfl⟩
set_option maxRecDepth 100000 in
theorem weightParts_lifted (os : Os) (started : os.Started) (H : Type) (enc : TypeId × Value → H) (F : Stop.Interp) :
  ReturnsInHanded {} Tryz.checked os 11 .any ((Rows.OpenSpec.upto Rows.weightPartsSpec).preRow enc Tryz.prog Tryz.f11 Rows.weightPartsUptoRow.domain false Rows.weightPartsUptoRow.laid) (((Rows.OpenSpec.upto Rows.weightPartsSpec).at F).post enc Tryz.prog Tryz.f11 false true false false) := by
 obtain ⟨places, hx⟩ := weightParts_reads os enc
 refine returnsInHanded_of_row (C := Tryz.checked) (s := Rows.OpenSpec.upto Rows.weightPartsSpec) Tryz.own started (by kernel_rfl) Tryz.func11
  (witness_row_at (enc := enc) (C := Tryz.checked) false (World.laidAll Tryz.prog os Rows.weightPartsRow.laid) #[witWeightParts0, witWeightParts1, .slice none 0 0] (World.laidAll_os _ _ _) (by kernel_rfl) (by kernel_rfl) (by kernel_rfl)
   (OpenSpec.preRow_of_cond 8 hx (by kernel_rfl) (fun k hk => by cases hk; kernel_rfl) (by kernel_rfl) (by rw [MakeChecks.laidMetH_plain _ _ _ (by kernel_rfl)]; exact laidMet_laidAll _ (by kernel_rfl) (by kernel_rfl)))) ?_
 intro W base args ds gs before hval0 hW _ hcond _ hL _ _
 have hval : ∀ (j : Nat) t v, Tryz.f11.params[j]? = some t → args[j]? = some v → Value.okWide Tryz.prog W .any base t v := hval0
 have hk := hcond _ rfl
 have hW' := hW
 obtain ⟨p, q, hA0, hV, rfl, hfz, hnd⟩ := hW
 have hA : DataW.TrodAll enc Tryz.prog W 0 (fun _ => true) true Tryz.f11.params.toList args.toList ds p := hA0
 have hall := hA
 rw [Tryz.params11] at hA hval
 obtain ⟨v0, v1, v2, d0, d1, d2, p0, p1, p2, rfl, rfl, rfl, h0, h1, h2⟩ := trodAll_three hA
 obtain ⟨rfl, rfl⟩ := trodVars_none hV
 have hbulk : Rows.uptoBulkAll _ ≤ 1048576 := of_decide_eq_true hk
 simp only [List.append_nil, Rows.uptoBulkAll] at hbulk
 have hb0 : Rows.uptoBulk d0 ≤ 1048576 := by omega
 have hb1 : Rows.uptoBulk d1 ≤ 1048576 := by omega
 have hb2 : Rows.uptoBulk d2 ≤ 1048576 := by omega
 obtain ⟨c0, rfl, _⟩ := okWide_struct Tryz.underlying71 (hval 0 71 v0 rfl rfl)
 obtain ⟨x0, o0, q0, r0⟩ := open_argB opensB_Design6 h0
 have s0 : VR0 (frW W) (design6V x0) _ := VRC.agg r0
 have q0 := Nat.le_trans q0 (show Rows.uptoBulk d0 ≤ 1048576 from hb0)
 obtain ⟨c1, rfl, _⟩ := okWide_struct Tryz.underlying35 (hval 1 35 v1 rfl rfl)
 obtain ⟨x1, o1, q1, r1⟩ := open_argB opensB_Mats h1
 have s1 : VR0 (frW W) (matsV x1) _ := VRC.agg r1
 have q1 := Nat.le_trans q1 (show Rows.uptoBulk d1 ≤ 1048576 from hb1)
 obtain ⟨a2, n2, k2, rfl⟩ := okWide_slice Tryz.underlying72 (hval 2 72 v2 rfl rfl)
 obtain ⟨x2, o2, q2, r2⟩ := open_argB opensB_names h2
 have s2 : VR0 (frW W) (trS x2) _ := r2.2 0 _ _ rfl rfl
 have q2 := Nat.le_trans q2 (show Rows.uptoBulk d2 ≤ 1048576 from hb2)
 clear hA0 hval0
 have hlt : ∀ x ∈ p0 ++ p1 ++ p2, x.block < W.heap.size := fun x hx => hW'.lt x (List.mem_append_left _ hx)
 have hargs : VRC (frW W) [design6V x0, matsV x1, trS x2] [_, _, _] := (VRC.one s0).append ((VRC.one s1).append (VRC.one s2))
 refine (Pure.at (law_WeightParts q0 q1 x2) (glob_laid hL) (by kernel_rfl) hargs).mono fun e W' ⟨v, v', hv, he, hcl, hb⟩ => ?_
 subst hv
 obtain rfl := hcl rfl
 subst he
 exact ⟨_, rfl, post_of_below (pv := []) hW' (fun _ _ _ => trodAll_mk1 (shut_bool Tryz.underlying4 _))
  (fun sp hsp => trodAll_stays Tryz.laidOut (by rw [Tryz.params11]; kernel_rfl) hall (fun x hx => hb.same (hlt x hx)) (fun x hx => hsp x (List.mem_append_left _ hx))) (fun _ _ => rfl) rfl hb (ok_one (by kernel_rfl) rfl (okWide_bool_mk Tryz.underlying4 _))⟩
theorem weightParts_f1 : (Rows.weightPartsUptoRow.inPlace == Tryz.checked.prog.inPlace 11) = true := by kernel_rfl
theorem weightParts_f2 : (Rows.weightPartsUptoRow.unfollowed == Tryz.checked.prog.unfollowed 11) = true := by kernel_rfl
theorem weightParts_f3 : (Rows.weightPartsUptoRow.recurses == Tryz.checked.prog.recurses 11) = true := by kernel_rfl
theorem weightParts_f4 : (Rows.weightPartsUptoRow.named == Tryz.checked.prog.varsNamed 11) = true := by kernel_rfl
theorem weightParts_facts : joinedFacts Tryz.checked.prog 11 Tryz.f11 (Rows.OpenSpec.upto Rows.weightPartsSpec).bare Rows.weightPartsUptoRow = true := by
 unfold joinedFacts
 rw [weightParts_f1, weightParts_f2, weightParts_f3, weightParts_f4]
 kernel_rfl
theorem weightParts_holds : Rows.WeightPartsUptoSaid :=
 OpenClaim.holds_of_cond 11 Tryz.f11 rfl rfl rfl rfl rfl rfl rfl ⟨rfl, rfl, rfl, rfl, rfl⟩ rfl rfl rfl rfl rfl (by kernel_rfl) Tryz.func11 weightParts_facts
  (of_decide_eq_true (by kernel_rfl)) (by unfold Func.isWrapper; first | (rw [if_pos (by decide +kernel)]; kernel_rfl) | (rw [if_neg (by decide +kernel)]; exact ⟨rfl, rfl⟩))
  (fun os started H enc _ F => by rw [OpenClaim.pre_eq_preRow]; exact weightParts_lifted os started H enc F)
theorem weightParts_goes : false = Rows.weightPartsUptoRow.goesBy Tryz.checked.prog := by kernel_rfl
theorem weightParts_looks : false = Tryz.checked.prog.looks [] := by kernel_rfl
theorem weightParts_card : Rows.WeightPartsUptoCardSaid :=
 Claim7.holds_tied_plain_at .later [] [.data, .data, .pinned] true Rows.weightPartsUptoCard.stood.harness false
  weightParts_holds (fun _ h => by cases h) (by kernel_rfl) (fun _ h => by cases h) weightPartsUpto_row_tie rfl ⟨rfl, rfl⟩ (by kernel_rfl) rfl
  (fun f fn hf hfn => by
   obtain rfl : f = 11 := Option.some.inj ((show Tryz.prog.funcNamed "shipyard/shipyardlaw49.WeightParts" = some 11 by kernel_rfl).symm.trans hf) |>.symm
   obtain rfl : fn = Tryz.f11 := (Option.some.inj (Tryz.func11.symm.trans hfn)).symm
   exact ⟨weightParts_looks, fun j t ht => by
    rw [Tryz.params11] at ht
    have hm : t ∈ [71, 35, 72] := by simpa using Array.mem_of_getElem? ht
    have hall : ([71, 35, 72].all fun u => !Tryz.prog.wantsStandIn u) = true := by kernel_rfl
    exact (show Tryz.prog.wantsStandIn t = false by simpa using List.all_eq_true.1 hall t hm)⟩)
  weightParts_goes
#print axioms weightParts_card
end Go.Proofs.YtngginofamlkkaaGreatDoor

