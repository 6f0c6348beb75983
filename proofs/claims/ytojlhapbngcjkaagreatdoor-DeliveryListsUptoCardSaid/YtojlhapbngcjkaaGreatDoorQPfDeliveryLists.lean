/-
  Put together out of several texts, each in its own namespace's block. Conditions: as each theorem states them.
-/
import Derived.Test.YtojlhapbngcjkaaGreatDoorRows
import Derived.Test.YtojlhapbngcjkaaGreatDoorCards
import Derived.Test.YtojlhapbngcjkaaGreatDoorTie
import Derived.Test.YtojlhapbngcjkaaGreatDoorQZg
import Derived.SevenTiedAt
import Derived.Deep.DeepHandedRow
import Derived.Lay
import Derived.MakeChecks
import Derived.JoinedCond
namespace Go.Proofs.YtojlhapbngcjkaaGreatDoor
open Go Go.RowKit Go.ChangeShapes Go.WideShapes Go.ChangeAt Go.Deep Go.Joins
def witDeliveryLists0 : Value := .agg #[.slice none 0 0, .slice none 0 0, .slice none 0 0, .slice none 0 0, .slice none 0 0, .slice none 0 0, .slice none 0 0, .slice none 0 0, .slice none 0 0, .int .i64 0, .int .i64 0, .int .i64 0, .int .i64 0, .slice none 0 0, .string ByteArray.empty, .slice none 0 0, .slice none 0 0, .slice none 0 0, .slice none 0 0, .slice none 0 0]
def witDeliveryLists1 : Value := .agg #[.int .i64 0, .string ByteArray.empty, .slice none 0 0, .slice none 0 0, .slice none 0 0, .slice none 0 0, .slice none 0 0, .slice none 0 0, .slice none 0 0, .slice none 0 0, .slice none 0 0, .slice none 0 0, .slice none 0 0, .slice none 0 0, .slice none 0 0, .slice none 0 0, .slice none 0 0, .slice none 0 0, .int .i64 0, .int .i64 0]
theorem deliveryLists_reads (os : Os) {H : Type} (enc : TypeId × Value → H) : ∃ places, DataW.whole enc Tryz.prog ((World.laidAll Tryz.prog os Rows.deliveryListsRow.laid).forCall (fun _ _ => 0) ⟨#[], #[witDeliveryLists0, witDeliveryLists1], []⟩).memory Tryz.f3.params.toList Rows.deliveryListsSpec.vars false (#[witDeliveryLists0, witDeliveryLists1] : Array Value).toList 8 = some ([.agg [.agg [.nil, .nil], .nil, .nil, .nil, .nil, .agg [.nil, .nil, .nil], .lit (.int .i64 0), .agg [.lit (.int .i64 0), .lit (.int .i64 0), .lit (.int .i64 0)], .nil, .agg [.lit (.string []), .nil, .nil, .nil, .nil, .nil]], .agg [.lit (.int .i64 0), .agg [.lit (.string []), .nil, .nil, .nil, .nil, .nil], .nil, .agg [.nil, .nil], .nil, .nil, .nil, .nil, .nil, .nil, .nil, .nil, .lit (.int .i64 0), .lit (.int .i64 0)]], [], places) :=
 ⟨[], by kernel_rfl⟩
set_option maxRecDepth 100000 in
theorem deliveryLists_lifted (os : Os) (started : os.Started) (H : Type) (enc : TypeId × Value → H) (F : Stop.Interp) :
  ReturnsInHanded {} Tryz.checked os 3 .any ((Rows.OpenSpec.upto Rows.deliveryListsSpec).preRow enc Tryz.prog Tryz.f3 Rows.deliveryListsUptoRow.domain false Rows.deliveryListsUptoRow.laid) (((Rows.OpenSpec.upto Rows.deliveryListsSpec).at F).post enc Tryz.prog Tryz.f3 false true false false) := by
 obtain ⟨places, hx⟩ := deliveryLists_reads os enc
 refine returnsInHanded_of_row (C := Tryz.checked) (s := Rows.OpenSpec.upto Rows.deliveryListsSpec) Tryz.own started (by kernel_rfl) Tryz.func3
  (witness_row_at (enc := enc) (C := Tryz.checked) false (World.laidAll Tryz.prog os Rows.deliveryListsRow.laid) #[witDeliveryLists0, witDeliveryLists1] (World.laidAll_os _ _ _) (by kernel_rfl) (by kernel_rfl) (by kernel_rfl)
   (OpenSpec.preRow_of_cond 8 hx (by kernel_rfl) (fun k hk => by cases hk; kernel_rfl) (by kernel_rfl) (by rw [MakeChecks.laidMetH_plain _ _ _ (by kernel_rfl)]; exact laidMet_laidAll _ (by kernel_rfl) (by kernel_rfl)))) ?_
 intro W base args ds gs before hval0 hW _ hcond _ hL _ _
 have hval : ∀ (j : Nat) t v, Tryz.f3.params[j]? = some t → args[j]? = some v → Value.okWide Tryz.prog W .any base t v := hval0
 have hk := hcond _ rfl
 have hW' := hW
 obtain ⟨p, q, hA0, hV, rfl, hfz, hnd⟩ := hW
 have hA : DataW.TrodAll enc Tryz.prog W 0 (fun _ => true) true Tryz.f3.params.toList args.toList ds p := hA0
 have hall := hA
 rw [Tryz.params3] at hA hval
 obtain ⟨v0, v1, d0, d1, p0, p1, rfl, rfl, rfl, h0, h1⟩ := trodAll_two hA
 obtain ⟨rfl, rfl⟩ := trodVars_none hV
 have hbulk : Rows.uptoBulkAll _ ≤ 1048576 := of_decide_eq_true hk
 simp only [List.append_nil, Rows.uptoBulkAll] at hbulk
 have hb0 : Rows.uptoBulk d0 ≤ 1048576 := by omega
 have hb1 : Rows.uptoBulk d1 ≤ 1048576 := by omega
 obtain ⟨c0, rfl, _⟩ := okWide_struct Tryz.underlying45 (hval 0 45 v0 rfl rfl)
 obtain ⟨x0, o0, q0, r0⟩ := open_argB opensB_SetupD h0
 have s0 : VR0 (frW W) (setupDV x0) _ := VRC.agg r0
 have q0 := Nat.le_trans q0 (show Rows.uptoBulk d0 ≤ 1048576 from hb0)
 obtain ⟨c1, rfl, _⟩ := okWide_struct Tryz.underlying57 (hval 1 57 v1 rfl rfl)
 obtain ⟨x1, o1, q1, r1⟩ := open_argB opensB_StateD h1
 have s1 : VR0 (frW W) (stateDV x1) _ := VRC.agg r1
 have q1 := Nat.le_trans q1 (show Rows.uptoBulk d1 ≤ 1048576 from hb1)
 clear hA0 hval0
 have hlt : ∀ x ∈ p0 ++ p1, x.block < W.heap.size := fun x hx => hW'.lt x (List.mem_append_left _ hx)
 have hargs : VRC (frW W) [setupDV x0, stateDV x1] [_, _] := (VRC.one s0).append (VRC.one s1)
 refine (Pure.at (law_DeliveryLists (x := x0) (bulk_state o1 q1)) (glob_laid hL) (by kernel_rfl) hargs).mono fun e W' ⟨v, v', hv, he, hcl, hb⟩ => ?_
 subst hv
 obtain rfl := hcl rfl
 subst he
 exact ⟨_, rfl, post_of_below (pv := []) hW' (fun _ _ _ => trodAll_mk1 (shut_bool Tryz.underlying4 _))
  (fun sp hsp => trodAll_stays Tryz.laidOut (by rw [Tryz.params3]; kernel_rfl) hall (fun x hx => hb.same (hlt x hx)) (fun x hx => hsp x (List.mem_append_left _ hx))) (fun _ _ => rfl) rfl hb (ok_one (by kernel_rfl) rfl (okWide_bool_mk Tryz.underlying4 _))⟩
theorem deliveryLists_holds : Rows.DeliveryListsUptoSaid :=
 OpenClaim.holds_of_cond 3 Tryz.f3 rfl rfl rfl rfl rfl rfl rfl ⟨rfl, rfl, rfl, rfl, rfl⟩ rfl rfl rfl rfl rfl (by kernel_rfl) Tryz.func3 deliveryLists_facts
  (of_decide_eq_true (by kernel_rfl)) (by unfold Func.isWrapper; first | (rw [if_pos (by decide +kernel)]; kernel_rfl) | (rw [if_neg (by decide +kernel)]; exact ⟨rfl, rfl⟩))
  (fun os started H enc _ F => by rw [OpenClaim.pre_eq_preRow]; exact deliveryLists_lifted os started H enc F)
theorem deliveryLists_goes : false = Rows.deliveryListsUptoRow.goesBy Tryz.checked.prog := by kernel_rfl
theorem deliveryLists_looks : false = Tryz.checked.prog.looks [] := by kernel_rfl
theorem deliveryLists_card : Rows.DeliveryListsUptoCardSaid :=
 Claim7.holds_tied_plain_at .later [] [.data, .data, .data, .data, .data, .widerDeep, .data, .pinned] true Rows.deliveryListsUptoCard.stood.harness false
  deliveryLists_holds (fun _ h => by cases h) (by kernel_rfl) (fun _ h => by cases h) deliveryListsUpto_row_tie rfl ⟨rfl, rfl⟩ (by kernel_rfl) rfl
  (fun f fn hf hfn => by
   obtain rfl : f = 3 := Option.some.inj ((show Tryz.prog.funcNamed "shipyard/shipyardlaw62.DeliveryLists" = some 3 by kernel_rfl).symm.trans hf) |>.symm
   obtain rfl : fn = Tryz.f3 := (Option.some.inj (Tryz.func3.symm.trans hfn)).symm
   exact ⟨deliveryLists_looks, fun j t ht => by
    rw [Tryz.params3] at ht
    have hm : t ∈ [45, 57] := by simpa using Array.mem_of_getElem? ht
    have hall : ([45, 57].all fun u => !Tryz.prog.wantsStandIn u) = true := by kernel_rfl
    exact (show Tryz.prog.wantsStandIn t = false by simpa using List.all_eq_true.1 hall t hm)⟩)
  deliveryLists_goes
#print axioms deliveryLists_card
end Go.Proofs.YtojlhapbngcjkaaGreatDoor

