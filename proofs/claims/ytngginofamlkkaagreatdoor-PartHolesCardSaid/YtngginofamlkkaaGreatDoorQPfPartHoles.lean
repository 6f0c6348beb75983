/-
  Put together out of several texts, each in its own namespace's block. Conditions: as each theorem states them.
-/
import Derived.Test.YtngginofamlkkaaGreatDoorRows
import Derived.Test.YtngginofamlkkaaGreatDoorCards
import Derived.Test.YtngginofamlkkaaGreatDoorTie
import Derived.Test.YtngginofamlkkaaGreatDoorQPwf
import Derived.Test.YtngginofamlkkaaGreatDoorQPrc
import Derived.SevenTiedAt
import Derived.Lay
namespace Go.Proofs.YtngginofamlkkaaGreatDoor
open Go Go.RowKit Go.ChangeShapes Go.WideShapes Go.ChangeAt Go.Deep Go.Joins
set_option maxRecDepth 100000 in
theorem partHoles_lifted (os : Os) (started : os.Started) (H : Type) (enc : TypeId × Value → H) :
  ReturnsInHanded {} Tryz.checked os 8 .any (fun w args => (Rows.partHolesSpec.pre enc Tryz.prog Tryz.f8 [] false w args ∧ laidMetH Tryz.prog Rows.partHolesRow.laid w) ∧ sizedMet enc Tryz.prog Tryz.f8 (OpenSpec.ofChange Rows.partHolesSpec) false w args)
   (Rows.partHolesSpec.post enc Tryz.prog Tryz.f8 false true false false) := by
 refine returnsInHanded_of_change_and (C := Tryz.checked) (X := fun w _ => laidMetH Tryz.prog Rows.partHolesRow.laid w) (fun _ _ _ hh h => h.of_heap hh) Tryz.own started (by kernel_rfl) Tryz.func8
  (ChangeSpec.witness_shaped (enc := enc) (C := Tryz.checked) (os := os) (X := fun w _ => laidMetH Tryz.prog Rows.partHolesRow.laid w) false (World.laidAll Tryz.prog os Rows.partHolesRow.laid) #[.agg #[.string ByteArray.empty, .int .i64 0, .int .i64 0, .string ByteArray.empty, .string ByteArray.empty, .int .i64 0, .slice none 0 0, .slice none 0 0, .string ByteArray.empty, .int .i64 0, .int .i64 0, .int .i64 0, .int .i64 0, .int .i64 0, .int .i64 0, .int .i64 0, .int .i64 0, .int .i64 0], .agg #[.slice none 0 0, .slice none 0 0], .int .i64 0] 8 (World.laidAll_os _ _ _) (World.shaped_of_ZipB (by kernel_rfl) (by kernel_rfl)) (by kernel_rfl) (by kernel_rfl) (by kernel_rfl)
   (by rw [MakeChecks.laidMetH_plain _ _ _ (by kernel_rfl)]; exact laidMet_laidAll _ (by kernel_rfl) (by kernel_rfl))) ?_
 intro W base args ds gs before hval0 hW _ _ hL _
 have hval : ∀ (j : Nat) t v, Tryz.f8.params[j]? = some t → args[j]? = some v → Value.okWide Tryz.prog W .any base t v := hval0
 have hW' := hW
 obtain ⟨p, q, hA0, hV, rfl, hfz, hnd⟩ := hW
 have hA : DataW.TrodAll enc Tryz.prog W 0 (fun _ => true) true Tryz.f8.params.toList args.toList ds p := hA0
 have hall := hA
 rw [Tryz.params8] at hA hval
 obtain ⟨v0, v1, v2, d0, d1, d2, p0, p1, p2, rfl, rfl, rfl, h0, h1, h2⟩ := trodAll_three hA
 obtain ⟨rfl, rfl⟩ := trodVars_none hV
 obtain ⟨c0, rfl, _⟩ := okWide_struct Tryz.underlying31 (hval 0 31 v0 rfl rfl)
 obtain ⟨x0, o0, r0⟩ := open_arg opens_part h0
 have s0 : VR0 (frW W) (partV x0) _ := VRC.agg r0
 obtain ⟨c1, rfl, _⟩ := okWide_struct Tryz.underlying35 (hval 1 35 v1 rfl rfl)
 obtain ⟨x1, o1, r1⟩ := open_arg opens_mats h1
 have s1 : VR0 (frW W) (matsV x1) _ := VRC.agg r1
 obtain ⟨z2, rfl⟩ := okWide_int Tryz.underlying3 (hval 2 3 v2 rfl rfl)
 obtain ⟨x2, o2, r2⟩ := open_arg (opens_int Tryz.underlying3) h2
 have s2 : VR0 (frW W) (.int .i64 x2) _ := r2.2 0 _ _ rfl rfl
 clear hA0 hval0
 have hlt : ∀ x ∈ p0 ++ p1 ++ p2, x.block < W.heap.size := fun x hx => hW'.lt x (List.mem_append_left _ hx)
 have hargs : VRC (frW W) [partV x0, matsV x1, .int .i64 x2] [_, _, _] := (VRC.one s0).append ((VRC.one s1).append (VRC.one s2))
 refine (Pure.at (partHoles_pure x0 x1 x2) (fun _ _ h => by cases h) (by kernel_rfl) hargs).mono fun e W' ⟨v, v', hv, he, hcl, hb⟩ => ?_
 subst hv
 obtain rfl := hcl rfl
 subst he
 exact ⟨_, rfl, post_of_below (pv := []) hW' (fun _ _ _ => trodAll_mk1 (shut_bool Tryz.underlying4 _))
  (fun sp hsp => trodAll_stays Tryz.laidOut (by rw [Tryz.params8]; kernel_rfl) hall (fun x hx => hb.same (hlt x hx)) (fun x hx => hsp x (List.mem_append_left _ hx))) (fun _ _ => rfl) rfl hb (ok_one (by kernel_rfl) rfl (okWide_bool_mk Tryz.underlying4 _))⟩
theorem partHoles_f1 : (Rows.partHolesRow.inPlace == Tryz.checked.prog.inPlace 8) = true := by kernel_rfl
theorem partHoles_f2 : (Rows.partHolesRow.unfollowed == Tryz.checked.prog.unfollowed 8) = true := by kernel_rfl
theorem partHoles_f3 : (Rows.partHolesRow.recurses == Tryz.checked.prog.recurses 8) = true := by kernel_rfl
theorem partHoles_f4 : (Rows.partHolesRow.named == Tryz.checked.prog.varsNamed 8) = true := by kernel_rfl
theorem partHoles_facts : joinedFacts Tryz.checked.prog 8 Tryz.f8 Rows.partHolesSpec Rows.partHolesRow = true := by
 unfold joinedFacts
 rw [partHoles_f1, partHoles_f2, partHoles_f3, partHoles_f4]
 kernel_rfl
theorem partHoles_holds : Rows.PartHolesSaid :=
 OpenClaim.holds_of_wide 8 Tryz.f8 rfl rfl rfl rfl rfl rfl rfl ⟨rfl, rfl, rfl, rfl, rfl⟩ rfl rfl rfl rfl rfl (by kernel_rfl) Tryz.func8 partHoles_facts
  (of_decide_eq_true (by kernel_rfl)) (by unfold Func.isWrapper; first | (rw [if_pos (by decide +kernel)]; kernel_rfl) | (rw [if_neg (by decide +kernel)]; exact ⟨rfl, rfl⟩))
  (fun os started H enc _ => partHoles_lifted os started H enc)
theorem partHoles_goes : false = Rows.partHolesRow.goesBy Tryz.checked.prog := by kernel_rfl
theorem partHoles_looks : false = Tryz.checked.prog.looks [] := by kernel_rfl
theorem partHoles_card : Rows.PartHolesCardSaid :=
 Claim7.holds_tied_plain_at .later [] [.data, .pinned] true Rows.partHolesCard.stood.harness false
  partHoles_holds (fun _ h => by cases h) (by kernel_rfl) (fun _ h => by cases h) partHoles_row_tie rfl ⟨rfl, rfl⟩ (by kernel_rfl) rfl
  (fun f fn hf hfn => by
   obtain rfl : f = 8 := Option.some.inj ((show Tryz.prog.funcNamed "shipyard/shipyardlaw16.PartHoles" = some 8 by kernel_rfl).symm.trans hf) |>.symm
   obtain rfl : fn = Tryz.f8 := (Option.some.inj (Tryz.func8.symm.trans hfn)).symm
   exact ⟨partHoles_looks, fun j t ht => by
    rw [Tryz.params8] at ht
    have hm : t ∈ [31, 35, 3] := by simpa using Array.mem_of_getElem? ht
    have hall : ([31, 35, 3].all fun u => !Tryz.prog.wantsStandIn u) = true := by kernel_rfl
    exact (show Tryz.prog.wantsStandIn t = false by simpa using List.all_eq_true.1 hall t hm)⟩)
  partHoles_goes
#print axioms partHoles_card
end Go.Proofs.YtngginofamlkkaaGreatDoor

