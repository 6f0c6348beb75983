/-
  Put together out of several texts, each in its own namespace's block. Conditions: as each theorem states them.
-/
import Derived.Test.YtngginofamlkkaaGreatDoorRows
import Derived.Test.YtngginofamlkkaaGreatDoorCards
import Derived.Test.YtngginofamlkkaaGreatDoorTie
import Derived.Test.YtngginofamlkkaaGreatDoorQMe
import Derived.Test.YtngginofamlkkaaGreatDoorQPrc
import Derived.SevenTiedAt
import Derived.Lay
namespace Go.Proofs.YtngginofamlkkaaGreatDoor
open Go Go.RowKit Go.ChangeShapes Go.WideShapes Go.ChangeAt Go.Deep Go.Joins
set_option maxRecDepth 100000 in
theorem partWeighs_lifted (os : Os) (started : os.Started) (H : Type) (enc : TypeId × Value → H) :
  ReturnsInHanded {} Tryz.checked os 4 .any (fun w args => (Rows.partWeighsSpec.pre enc Tryz.prog Tryz.f4 [] false w args ∧ laidMetH Tryz.prog Rows.partWeighsRow.laid w) ∧ sizedMet enc Tryz.prog Tryz.f4 (OpenSpec.ofChange Rows.partWeighsSpec) false w args)
   (Rows.partWeighsSpec.post enc Tryz.prog Tryz.f4 false true false false) := by
 refine returnsInHanded_of_change_and (C := Tryz.checked) (X := fun w _ => laidMetH Tryz.prog Rows.partWeighsRow.laid w) (fun _ _ _ hh h => h.of_heap hh) Tryz.own started (by kernel_rfl) Tryz.func4
  (ChangeSpec.witness_shaped (enc := enc) (C := Tryz.checked) (os := os) (X := fun w _ => laidMetH Tryz.prog Rows.partWeighsRow.laid w) false (World.laidAll Tryz.prog os Rows.partWeighsRow.laid) #[.agg #[.string ByteArray.empty, .int .i64 0, .int .i64 0, .string ByteArray.empty, .string ByteArray.empty, .int .i64 0, .slice none 0 0, .slice none 0 0, .string ByteArray.empty, .int .i64 0, .int .i64 0, .int .i64 0, .int .i64 0, .int .i64 0, .int .i64 0, .int .i64 0, .int .i64 0, .int .i64 0], .agg #[.slice none 0 0, .slice none 0 0]] 8 (World.laidAll_os _ _ _) (World.shaped_of_ZipB (by kernel_rfl) (by kernel_rfl)) (by kernel_rfl) (by kernel_rfl) (by kernel_rfl)
   (by rw [MakeChecks.laidMetH_plain _ _ _ (by kernel_rfl)]; exact laidMet_laidAll _ (by kernel_rfl) (by kernel_rfl))) ?_
 intro W base args ds gs before hval0 hW _ _ hL _
 have hval : ∀ (j : Nat) t v, Tryz.f4.params[j]? = some t → args[j]? = some v → Value.okWide Tryz.prog W .any base t v := hval0
 have hW' := hW
 obtain ⟨p, q, hA0, hV, rfl, hfz, hnd⟩ := hW
 have hA : DataW.TrodAll enc Tryz.prog W 0 (fun _ => true) true Tryz.f4.params.toList args.toList ds p := hA0
 have hall := hA
 rw [Tryz.params4] at hA hval
 obtain ⟨v0, v1, d0, d1, p0, p1, rfl, rfl, rfl, h0, h1⟩ := trodAll_two hA
 obtain ⟨rfl, rfl⟩ := trodVars_none hV
 obtain ⟨c0, rfl, _⟩ := okWide_struct Tryz.underlying31 (hval 0 31 v0 rfl rfl)
 obtain ⟨x0, o0, r0⟩ := open_arg opens_part h0
 have s0 : VR0 (frW W) (partV x0) _ := VRC.agg r0
 obtain ⟨c1, rfl, _⟩ := okWide_struct Tryz.underlying35 (hval 1 35 v1 rfl rfl)
 obtain ⟨x1, o1, r1⟩ := open_arg opens_mats h1
 have s1 : VR0 (frW W) (matsV x1) _ := VRC.agg r1
 clear hA0 hval0
 have hlt : ∀ x ∈ p0 ++ p1, x.block < W.heap.size := fun x hx => hW'.lt x (List.mem_append_left _ hx)
 have hargs : VRC (frW W) [partV x0, matsV x1] [_, _] := (VRC.one s0).append (VRC.one s1)
 refine (Pure.at (partWeighs_pure x0 x1) (fun _ _ h => by cases h) (by kernel_rfl) hargs).mono fun e W' ⟨v, v', hv, he, hcl, hb⟩ => ?_
 subst hv
 obtain rfl := hcl rfl
 subst he
 exact ⟨_, rfl, post_of_below (pv := []) hW' (fun _ _ _ => trodAll_mk1 (shut_bool Tryz.underlying4 _))
  (fun sp hsp => trodAll_stays Tryz.laidOut (by rw [Tryz.params4]; kernel_rfl) hall (fun x hx => hb.same (hlt x hx)) (fun x hx => hsp x (List.mem_append_left _ hx))) (fun _ _ => rfl) rfl hb (ok_one (by kernel_rfl) rfl (okWide_bool_mk Tryz.underlying4 _))⟩
theorem partWeighs_f1 : (Rows.partWeighsRow.inPlace == Tryz.checked.prog.inPlace 4) = true := by kernel_rfl
theorem partWeighs_f2 : (Rows.partWeighsRow.unfollowed == Tryz.checked.prog.unfollowed 4) = true := by kernel_rfl
theorem partWeighs_f3 : (Rows.partWeighsRow.recurses == Tryz.checked.prog.recurses 4) = true := by kernel_rfl
theorem partWeighs_f4 : (Rows.partWeighsRow.named == Tryz.checked.prog.varsNamed 4) = true := by kernel_rfl
theorem partWeighs_facts : joinedFacts Tryz.checked.prog 4 Tryz.f4 Rows.partWeighsSpec Rows.partWeighsRow = true := by
 unfold joinedFacts
 rw [partWeighs_f1, partWeighs_f2, partWeighs_f3, partWeighs_f4]
 kernel_rfl
theorem partWeighs_holds : Rows.PartWeighsSaid :=
 OpenClaim.holds_of_wide 4 Tryz.f4 rfl rfl rfl rfl rfl rfl rfl ⟨rfl, rfl, rfl, rfl, rfl⟩ rfl rfl rfl rfl rfl (by kernel_rfl) Tryz.func4 partWeighs_facts
  (of_decide_eq_true (by kernel_rfl)) (by unfold Func.isWrapper; first | (rw [if_pos (by decide +kernel)]; kernel_rfl) | (rw [if_neg (by decide +kernel)]; exact ⟨rfl, rfl⟩))
  (fun os started H enc _ => partWeighs_lifted os started H enc)
theorem partWeighs_goes : false = Rows.partWeighsRow.goesBy Tryz.checked.prog := by kernel_rfl
theorem partWeighs_looks : false = Tryz.checked.prog.looks [] := by kernel_rfl
theorem partWeighs_card : Rows.PartWeighsCardSaid :=
 Claim7.holds_tied_plain_at .later [] [.data, .pinned] true Rows.partWeighsCard.stood.harness false
  partWeighs_holds (fun _ h => by cases h) (by kernel_rfl) (fun _ h => by cases h) partWeighs_row_tie rfl ⟨rfl, rfl⟩ (by kernel_rfl) rfl
  (fun f fn hf hfn => by
   obtain rfl : f = 4 := Option.some.inj ((show Tryz.prog.funcNamed "shipyard/shipyardlaw16.PartWeighs" = some 4 by kernel_rfl).symm.trans hf) |>.symm
   obtain rfl : fn = Tryz.f4 := (Option.some.inj (Tryz.func4.symm.trans hfn)).symm
   exact ⟨partWeighs_looks, fun j t ht => by
    rw [Tryz.params4] at ht
    have hm : t ∈ [31, 35] := by simpa using Array.mem_of_getElem? ht
    have hall : ([31, 35].all fun u => !Tryz.prog.wantsStandIn u) = true := by kernel_rfl
    exact (show Tryz.prog.wantsStandIn t = false by simpa using List.all_eq_true.1 hall t hm)⟩)
  partWeighs_goes
#print axioms partWeighs_card
end Go.Proofs.YtngginofamlkkaaGreatDoor

