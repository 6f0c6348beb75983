/-
  Put together out of several texts, each in its own namespace's block. Conditions: as each theorem states them.
-/
import Derived.Test.YtojlhapbngcjkaaGreatDoorRows
import Derived.Test.YtojlhapbngcjkaaGreatDoorCards
import Derived.Test.YtojlhapbngcjkaaGreatDoorTie
import Derived.Test.YtojlhapbngcjkaaGreatDoorQZe
import Derived.SevenTiedAt
import Derived.Lay
namespace Go.Proofs.YtojlhapbngcjkaaGreatDoor
open Go Go.RowKit Go.ChangeShapes Go.WideShapes Go.ChangeAt Go.Deep Go.Joins
set_option maxRecDepth 100000 in
theorem deliveryChecks_lifted (os : Os) (started : os.Started) (H : Type) (enc : TypeId × Value → H) :
  ReturnsInHanded {} Tryz.checked os 4 .any (fun w args => (Rows.deliveryChecksSpec.pre enc Tryz.prog Tryz.f4 [] false w args ∧ laidMetH Tryz.prog Rows.deliveryChecksRow.laid w) ∧ sizedMet enc Tryz.prog Tryz.f4 (OpenSpec.ofChange Rows.deliveryChecksSpec) false w args)
   (Rows.deliveryChecksSpec.post enc Tryz.prog Tryz.f4 false true false false) := by
 refine returnsInHanded_of_change_and (C := Tryz.checked) (X := fun w _ => laidMetH Tryz.prog Rows.deliveryChecksRow.laid w) (fun _ _ _ hh h => h.of_heap hh) Tryz.own started (by kernel_rfl) Tryz.func4
  (ChangeSpec.witness_shaped (enc := enc) (C := Tryz.checked) (os := os) (X := fun w _ => laidMetH Tryz.prog Rows.deliveryChecksRow.laid w) false (World.laidAll Tryz.prog os Rows.deliveryChecksRow.laid) #[.string ByteArray.empty] 8 (World.laidAll_os _ _ _) (World.shaped_of_ZipB (by kernel_rfl) (by kernel_rfl)) (by kernel_rfl) (by kernel_rfl) (by kernel_rfl)
   (by rw [MakeChecks.laidMetH_plain _ _ _ (by kernel_rfl)]; exact laidMet_laidAll _ (by kernel_rfl) (by kernel_rfl))) ?_
 intro W base args ds gs before hval0 hW _ hwt hL _
 have hval : ∀ (j : Nat) t v, Tryz.f4.params[j]? = some t → args[j]? = some v → Value.okWide Tryz.prog W .any base t v := hval0
 have hW' := hW
 obtain ⟨p, q, hA0, hV, rfl, hfz, hnd⟩ := hW
 have hA : DataW.TrodAll enc Tryz.prog W 0 (fun _ => true) true Tryz.f4.params.toList args.toList ds p := hA0
 have hall := hA
 rw [Tryz.params4] at hA hval
 obtain ⟨v0, d0, rfl, rfl, h0⟩ := trodAll_one hA
 obtain ⟨rfl, rfl⟩ := trodVars_none hV
 obtain ⟨z0, rfl⟩ := okWide_string Tryz.underlying9 (hval 0 9 v0 rfl rfl)
 obtain ⟨x0, o0, r0⟩ := open_arg (opens_string Tryz.underlying9) h0
 have s0 : VR0 (frW W) (.string x0) _ := r0.2 0 _ _ rfl rfl
 clear hA0 hval0
 have hlt : ∀ x ∈ p, x.block < W.heap.size := fun x hx => hW'.lt x (List.mem_append_left _ hx)
 have hargs : VRC (frW W) [.string x0] [_] := VRC.one s0
 refine (Pure.at (law_DeliveryChecks x0) (glob_laid hL) (by kernel_rfl) hargs).mono fun e W' ⟨v, v', hv, he, hcl, hb⟩ => ?_
 subst hv
 obtain rfl := hcl rfl
 subst he
 exact ⟨_, rfl, post_of_below (pv := []) hW' (fun _ _ _ => trodAll_mk1 (shut_bool Tryz.underlying4 _))
  (fun sp hsp => trodAll_stays Tryz.laidOut (by rw [Tryz.params4]; kernel_rfl) hall (fun x hx => hb.same (hlt x hx)) (fun x hx => hsp x (List.mem_append_left _ hx))) (fun _ _ => rfl) rfl hb (ok_one (by kernel_rfl) rfl (okWide_bool_mk Tryz.underlying4 _))⟩
theorem deliveryChecks_f1 : (Rows.deliveryChecksRow.inPlace == Tryz.checked.prog.inPlace 4) = true := by kernel_rfl
theorem deliveryChecks_f2 : (Rows.deliveryChecksRow.unfollowed == Tryz.checked.prog.unfollowed 4) = true := by kernel_rfl
theorem deliveryChecks_f3 : (Rows.deliveryChecksRow.recurses == Tryz.checked.prog.recurses 4) = true := by kernel_rfl
theorem deliveryChecks_f4 : (Rows.deliveryChecksRow.named == Tryz.checked.prog.varsNamed 4) = true := by kernel_rfl
theorem deliveryChecks_facts : joinedFacts Tryz.checked.prog 4 Tryz.f4 Rows.deliveryChecksSpec Rows.deliveryChecksRow = true := by
 unfold joinedFacts
 rw [deliveryChecks_f1, deliveryChecks_f2, deliveryChecks_f3, deliveryChecks_f4]
 kernel_rfl
theorem deliveryChecks_holds : Rows.DeliveryChecksSaid :=
 OpenClaim.holds_of_wide 4 Tryz.f4 rfl rfl rfl rfl rfl rfl rfl ⟨rfl, rfl, rfl, rfl, rfl⟩ rfl rfl rfl rfl rfl (by kernel_rfl) Tryz.func4 deliveryChecks_facts
  (of_decide_eq_true (by kernel_rfl)) (by unfold Func.isWrapper; first | (rw [if_pos (by decide +kernel)]; kernel_rfl) | (rw [if_neg (by decide +kernel)]; exact ⟨rfl, rfl⟩))
  (fun os started H enc _ => deliveryChecks_lifted os started H enc)
theorem deliveryChecks_goes : false = Rows.deliveryChecksRow.goesBy Tryz.checked.prog := by kernel_rfl
theorem deliveryChecks_looks : false = Tryz.checked.prog.looks [] := by kernel_rfl
theorem deliveryChecks_card : Rows.DeliveryChecksCardSaid :=
 Claim7.holds_tied_plain_at .later [] [.data, .data, .data, .data, .data, .widerDeep, .data, .pinned] true Rows.deliveryChecksCard.stood.harness false
  deliveryChecks_holds (fun _ h => by cases h) (by kernel_rfl) (fun _ h => by cases h) deliveryChecks_row_tie rfl ⟨rfl, rfl⟩ (by kernel_rfl) rfl
  (fun f fn hf hfn => by
   obtain rfl : f = 4 := Option.some.inj ((show Tryz.prog.funcNamed "shipyard/shipyardlaw62.DeliveryChecks" = some 4 by kernel_rfl).symm.trans hf) |>.symm
   obtain rfl : fn = Tryz.f4 := (Option.some.inj (Tryz.func4.symm.trans hfn)).symm
   exact ⟨deliveryChecks_looks, fun j t ht => by
    rw [Tryz.params4] at ht
    have hm : t ∈ [9] := by simpa using Array.mem_of_getElem? ht
    have hall : ([9].all fun u => !Tryz.prog.wantsStandIn u) = true := by kernel_rfl
    exact (show Tryz.prog.wantsStandIn t = false by simpa using List.all_eq_true.1 hall t hm)⟩)
  deliveryChecks_goes
#print axioms deliveryChecks_card
end Go.Proofs.YtojlhapbngcjkaaGreatDoor

