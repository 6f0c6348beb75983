/-
  Put together out of several texts, each in its own namespace's block. Conditions: as each theorem states them.
-/
import Derived.Test.YtngginofamlkkaaGreatDoorRows
import Derived.Test.YtngginofamlkkaaGreatDoorCards
import Derived.Test.YtngginofamlkkaaGreatDoorTie
import Derived.Test.YtngginofamlkkaaGreatDoorQDi
import Derived.SevenTiedAt
import Derived.Lay
namespace Go.Proofs.YtngginofamlkkaaGreatDoor
open Go Go.RowKit Go.ChangeShapes Go.WideShapes Go.ChangeAt Go.Deep Go.Joins
set_option maxRecDepth 100000 in
theorem weightDisjoint_lifted (os : Os) (started : os.Started) (H : Type) (enc : TypeId × Value → H) :
  ReturnsInHanded {} Tryz.checked os 12 .any (fun w args => (Rows.weightDisjointSpec.pre enc Tryz.prog Tryz.f12 [] false w args ∧ laidMetH Tryz.prog Rows.weightDisjointRow.laid w) ∧ sizedMet enc Tryz.prog Tryz.f12 (OpenSpec.ofChange Rows.weightDisjointSpec) false w args)
   (Rows.weightDisjointSpec.post enc Tryz.prog Tryz.f12 false true false false) := by
 refine returnsInHanded_of_change_and (C := Tryz.checked) (X := fun w _ => laidMetH Tryz.prog Rows.weightDisjointRow.laid w) (fun _ _ _ hh h => h.of_heap hh) Tryz.own started (by kernel_rfl) Tryz.func12
  (ChangeSpec.witness_shaped (enc := enc) (C := Tryz.checked) (os := os) (X := fun w _ => laidMetH Tryz.prog Rows.weightDisjointRow.laid w) false (World.laidAll Tryz.prog os Rows.weightDisjointRow.laid) #[.agg #[.string ByteArray.empty, .slice none 0 0, .slice none 0 0, .slice none 0 0, .slice none 0 0, .slice none 0 0], .agg #[.slice none 0 0, .slice none 0 0], .slice none 0 0] 8 (World.laidAll_os _ _ _) (World.shaped_of_ZipB (by kernel_rfl) (by kernel_rfl)) (by kernel_rfl) (by kernel_rfl) (by kernel_rfl)
   (by rw [MakeChecks.laidMetH_plain _ _ _ (by kernel_rfl)]; exact laidMet_laidAll _ (by kernel_rfl) (by kernel_rfl))) ?_
 intro W base args ds gs before hval0 hW _ hwt hL _
 have hval : ∀ (j : Nat) t v, Tryz.f12.params[j]? = some t → args[j]? = some v → Value.okWide Tryz.prog W .any base t v := hval0
 have hW' := hW
 obtain ⟨p, q, hA0, hV, rfl, hfz, hnd⟩ := hW
 have hA : DataW.TrodAll enc Tryz.prog W 0 (fun _ => true) true Tryz.f12.params.toList args.toList ds p := hA0
 have hall := hA
 rw [Tryz.params12] at hA hval
 obtain ⟨v0, v1, v2, d0, d1, d2, p0, p1, p2, rfl, rfl, rfl, h0, h1, h2⟩ := trodAll_three hA
 obtain ⟨rfl, rfl⟩ := trodVars_none hV
 obtain ⟨c0, rfl, _⟩ := okWide_struct Tryz.underlying71 (hval 0 71 v0 rfl rfl)
 obtain ⟨x0, o0, r0⟩ := open_argW opensW_Design6 h0 (fun n hn => of_decide_eq_true (List.all_eq_true.1 hwt n (each_mem (i := 0) (by rw [Tryz.params12]; rfl) rfl hn)))
 have s0 : VR0 (frW W) (design6V x0) _ := VRC.agg r0
 obtain ⟨c1, rfl, _⟩ := okWide_struct Tryz.underlying35 (hval 1 35 v1 rfl rfl)
 obtain ⟨x1, o1, r1⟩ := open_argW opensW_mats h1 (fun n hn => of_decide_eq_true (List.all_eq_true.1 hwt n (each_mem (i := 1) (by rw [Tryz.params12]; rfl) rfl hn)))
 have s1 : VR0 (frW W) (matsV x1) _ := VRC.agg r1
 obtain ⟨a2, n2, k2, rfl⟩ := okWide_slice Tryz.underlying72 (hval 2 72 v2 rfl rfl)
 obtain ⟨x2, o2, r2⟩ := open_argW (Opens.toW opensW_names) h2 (fun n hn => of_decide_eq_true (List.all_eq_true.1 hwt n (each_mem (i := 2) (by rw [Tryz.params12]; rfl) rfl hn)))
 have s2 : VR0 (frW W) (trS x2) _ := r2.2 0 _ _ rfl rfl
 clear hA0 hval0
 have hlt : ∀ x ∈ p0 ++ p1 ++ p2, x.block < W.heap.size := fun x hx => hW'.lt x (List.mem_append_left _ hx)
 have hargs : VRC (frW W) [design6V x0, matsV x1, trS x2] [_, _, _] := (VRC.one s0).append ((VRC.one s1).append (VRC.one s2))
 refine (Pure.at (law_WeightDisjoint o0 o1) (glob_laid hL) (by kernel_rfl) hargs).mono fun e W' ⟨v, v', hv, he, hcl, hb⟩ => ?_
 subst hv
 obtain rfl := hcl rfl
 subst he
 exact ⟨_, rfl, post_of_below (pv := []) hW' (fun _ _ _ => trodAll_mk1 (shut_bool Tryz.underlying4 _))
  (fun sp hsp => trodAll_stays Tryz.laidOut (by rw [Tryz.params12]; kernel_rfl) hall (fun x hx => hb.same (hlt x hx)) (fun x hx => hsp x (List.mem_append_left _ hx))) (fun _ _ => rfl) rfl hb (ok_one (by kernel_rfl) rfl (okWide_bool_mk Tryz.underlying4 _))⟩
theorem weightDisjoint_f1 : (Rows.weightDisjointRow.inPlace == Tryz.checked.prog.inPlace 12) = true := by kernel_rfl
theorem weightDisjoint_f2 : (Rows.weightDisjointRow.unfollowed == Tryz.checked.prog.unfollowed 12) = true := by kernel_rfl
theorem weightDisjoint_f3 : (Rows.weightDisjointRow.recurses == Tryz.checked.prog.recurses 12) = true := by kernel_rfl
theorem weightDisjoint_f4 : (Rows.weightDisjointRow.named == Tryz.checked.prog.varsNamed 12) = true := by kernel_rfl
theorem weightDisjoint_facts : joinedFacts Tryz.checked.prog 12 Tryz.f12 Rows.weightDisjointSpec Rows.weightDisjointRow = true := by
 unfold joinedFacts
 rw [weightDisjoint_f1, weightDisjoint_f2, weightDisjoint_f3, weightDisjoint_f4]
 kernel_rfl
theorem weightDisjoint_holds : Rows.WeightDisjointSaid :=
 OpenClaim.holds_of_wide 12 Tryz.f12 rfl rfl rfl rfl rfl rfl rfl ⟨rfl, rfl, rfl, rfl, rfl⟩ rfl rfl rfl rfl rfl (by kernel_rfl) Tryz.func12 weightDisjoint_facts
  (of_decide_eq_true (by kernel_rfl)) (by unfold Func.isWrapper; first | (rw [if_pos (by decide +kernel)]; kernel_rfl) | (rw [if_neg (by decide +kernel)]; exact ⟨rfl, rfl⟩))
  (fun os started H enc _ => weightDisjoint_lifted os started H enc)
theorem weightDisjoint_goes : false = Rows.weightDisjointRow.goesBy Tryz.checked.prog := by kernel_rfl
theorem weightDisjoint_looks : false = Tryz.checked.prog.looks [] := by kernel_rfl
theorem weightDisjoint_card : Rows.WeightDisjointCardSaid :=
 Claim7.holds_tied_plain_at .later [] [.data, .data, .pinned] true Rows.weightDisjointCard.stood.harness false
  weightDisjoint_holds (fun _ h => by cases h) (by kernel_rfl) (fun _ h => by cases h) weightDisjoint_row_tie rfl ⟨rfl, rfl⟩ (by kernel_rfl) rfl
  (fun f fn hf hfn => by
   obtain rfl : f = 12 := Option.some.inj ((show Tryz.prog.funcNamed "shipyard/shipyardlaw49.WeightDisjoint" = some 12 by kernel_rfl).symm.trans hf) |>.symm
   obtain rfl : fn = Tryz.f12 := (Option.some.inj (Tryz.func12.symm.trans hfn)).symm
   exact ⟨weightDisjoint_looks, fun j t ht => by
    rw [Tryz.params12] at ht
    have hm : t ∈ [71, 35, 72] := by simpa using Array.mem_of_getElem? ht
    have hall : ([71, 35, 72].all fun u => !Tryz.prog.wantsStandIn u) = true := by kernel_rfl
    exact (show Tryz.prog.wantsStandIn t = false by simpa using List.all_eq_true.1 hall t hm)⟩)
  weightDisjoint_goes
#print axioms weightDisjoint_card
end Go.Proofs.YtngginofamlkkaaGreatDoor

