/-
  Put together out of several texts, each in its own namespace's block. Conditions: as each theorem states them.
-/
import Derived.Test.YtngginofamlkkaaGreatDoorRows
import Derived.Test.YtngginofamlkkaaGreatDoorCards
import Derived.Test.YtngginofamlkkaaGreatDoorTie
import Derived.Test.YtngginofamlkkaaGreatDoorQR17i
import Derived.SevenTiedAt
import Derived.Deep.DeepHandedRow
import Derived.Lay
import Derived.MakeChecks
import Derived.JoinedCond
namespace Go.Proofs.YtngginofamlkkaaGreatDoor
open Go Go.RowKit Go.ChangeShapes Go.WideShapes Go.ChangeAt Go.Deep Go.Joins
def kU : Value:=.agg #[.string ByteArray.empty,.slice none 0 0,.slice none 0 0,.slice none 0 0,.slice none 0 0,.slice none 0 0]
def kZ : Value:=.agg #[.slice none 0 0,.slice none 0 0]
def lA : Value:=.agg #[.int .i64 0,.int .i64 0,.int .i64 0]
theorem vD (os : Os) {H : Type} (enc : TypeId × Value -> H) : ∃ places,DataW.whole enc Tryz.prog ((World.laidAll Tryz.prog os Rows.weightMovesRow.laid).forCall (fun _ _=>0) ⟨#[],#[kU,kZ,lA],[]⟩).memory Tryz.f13.params.toList Rows.weightMovesSpec.vars false (#[kU,kZ,lA] : Array Value).toList 8 = some ([.agg [.lit (.string []),.nil,.nil,.nil,.nil,.nil],.agg [.nil,.nil],.agg [.lit (.int .i64 0),.lit (.int .i64 0),.lit (.int .i64 0)]],[],places) :=
 ⟨[],by kernel_rfl⟩
set_option maxRecDepth 100000 in
theorem tC (os : Os) (started : os.Started) (H : Type) (enc : TypeId × Value -> H) (F : Stop.Interp) :
  ReturnsInHanded {} Tryz.checked os 13 .any ((Rows.OpenSpec.upto Rows.weightMovesSpec).preRow enc Tryz.prog Tryz.f13 Rows.weightMovesUptoRow.domain false Rows.weightMovesUptoRow.laid) (((Rows.OpenSpec.upto Rows.weightMovesSpec).at F).post enc Tryz.prog Tryz.f13 false true false false):=by
 obtain ⟨places,hx⟩:=vD os enc
 refine returnsInHanded_of_row (C:=Tryz.checked) (s:=Rows.OpenSpec.upto Rows.weightMovesSpec) Tryz.own started (by kernel_rfl) Tryz.func13
  (witness_row_at (enc:=enc) (C:=Tryz.checked) false (World.laidAll Tryz.prog os Rows.weightMovesRow.laid) #[kU,kZ,lA] (World.laidAll_os _ _ _) (by kernel_rfl) (by kernel_rfl) (by kernel_rfl)
   (OpenSpec.preRow_of_cond 8 hx (by kernel_rfl) (fun k hk=>by cases hk; kernel_rfl) (by kernel_rfl) (by rw [MakeChecks.laidMetH_plain _ _ _ (by kernel_rfl)]; exact laidMet_laidAll _ (by kernel_rfl) (by kernel_rfl)))) ?_
 intro W base args ds gs before hval0 hW _ hcond _ hL _ _
 have hval : ∀ (j : Nat) t v,Tryz.f13.params[j]? = some t -> args[j]? = some v -> Value.okWide Tryz.prog W .any base t v:=hval0
 have hk:=hcond _ rfl
 have hW':=hW
 obtain ⟨p,q,hA0,hV,rfl,hfz,hnd⟩:=hW
 have hA : DataW.TrodAll enc Tryz.prog W 0 (fun _=>true) true Tryz.f13.params.toList args.toList ds p:=hA0
 have hall:=hA
 rw [Tryz.params13] at hA hval
 obtain ⟨v0,v1,v2,d0,d1,d2,p0,p1,p2,rfl,rfl,rfl,h0,h1,h2⟩:=trodAll_three hA
 obtain ⟨rfl,rfl⟩:=trodVars_none hV
 have hbulk : Rows.uptoBulkAll _ <= 1048576:=of_decide_eq_true hk
 simp only [List.append_nil,Rows.uptoBulkAll] at hbulk
 have hb0 : Rows.uptoBulk d0 <= 1048576:=by omega
 have hb1 : Rows.uptoBulk d1 <= 1048576:=by omega
 have hb2 : Rows.uptoBulk d2 <= 1048576:=by omega
 obtain ⟨c0,rfl,_⟩:=okWide_struct Tryz.underlying71 (hval 0 71 v0 rfl rfl)
 obtain ⟨x0,o0,q0,r0⟩:=xJ aBr h0
 have s0 : VR0 (frW W) (aC x0) _:=VRC.agg r0
 have q0:=Nat.le_trans q0 (show Rows.uptoBulk d0 <= 1048576 from hb0)
 obtain ⟨c1,rfl,_⟩:=okWide_struct Tryz.underlying35 (hval 1 35 v1 rfl rfl)
 obtain ⟨x1,o1,q1,r1⟩:=xJ aGf h1
 have s1 : VR0 (frW W) (bD x1) _:=VRC.agg r1
 have q1:=Nat.le_trans q1 (show Rows.uptoBulk d1 <= 1048576 from hb1)
 obtain ⟨c2,rfl,_⟩:=okWide_struct Tryz.underlying27 (hval 2 27 v2 rfl rfl)
 obtain ⟨x2,o2,q2,r2⟩:=xJ pS h2
 have s2 : VR0 (frW W) (iB x2) _:=VRC.agg r2
 have q2:=Nat.le_trans q2 (show Rows.uptoBulk d2 <= 1048576 from hb2)
 clear hA0 hval0
 have hlt : ∀ x ∈ p0 ++ p1 ++ p2,x.block < W.heap.size:=fun x hx=>hW'.lt x (List.mem_append_left _ hx)
 have hargs : VRC (frW W) [aC x0,bD x1,iB x2] [_,_,_]:=(VRC.one s0).append ((VRC.one s1).append (VRC.one s2))
 refine (Pure.at (yX q0 q1 x2) (aKG hL) (by kernel_rfl) hargs).mono fun e W' ⟨v,v',hv,he,hcl,hb⟩=>?_
 subst hv
 obtain rfl:=hcl rfl
 subst he
 exact ⟨_,rfl,aBG (pv:=[]) hW' (fun _ _ _=>trodAll_mk1 (shut_bool Tryz.underlying4 _))
  (fun sp hsp=>aBH Tryz.laidOut (by rw [Tryz.params13]; kernel_rfl) hall (fun x hx=>hb.same (hlt x hx)) (fun x hx=>hsp x (List.mem_append_left _ hx))) (fun _ _=>rfl) rfl hb (ok_one (by kernel_rfl) rfl (okWide_bool_mk Tryz.underlying4 _))⟩
theorem aBc : (Rows.weightMovesUptoRow.inPlace == Tryz.checked.prog.inPlace 13) = true:=by kernel_rfl
theorem aBm : (Rows.weightMovesUptoRow.unfollowed == Tryz.checked.prog.unfollowed 13) = true:=by kernel_rfl
theorem zR : (Rows.weightMovesUptoRow.recurses == Tryz.checked.prog.recurses 13) = true:=by kernel_rfl
theorem aB2 : (Rows.weightMovesUptoRow.named == Tryz.checked.prog.varsNamed 13) = true:=by kernel_rfl
theorem vA : joinedFacts Tryz.checked.prog 13 Tryz.f13 (Rows.OpenSpec.upto Rows.weightMovesSpec).bare Rows.weightMovesUptoRow = true:=by
 unfold joinedFacts
 rw [aBc,aBm,zR,aB2]
 kernel_rfl
theorem vB : Rows.WeightMovesUptoSaid :=
 OpenClaim.holds_of_cond 13 Tryz.f13 rfl rfl rfl rfl rfl rfl rfl ⟨rfl,rfl,rfl,rfl,rfl⟩ rfl rfl rfl rfl rfl (by kernel_rfl) Tryz.func13 vA
  (of_decide_eq_true (by kernel_rfl)) (by unfold Func.isWrapper; first | (rw [if_pos (by decide +kernel)]; kernel_rfl) | (rw [if_neg (by decide +kernel)]; exact ⟨rfl,rfl⟩))
  (fun os started H enc _ F=>by rw [OpenClaim.pre_eq_preRow]; exact tC os started H enc F)
theorem wB : false = Rows.weightMovesUptoRow.goesBy Tryz.checked.prog:=by kernel_rfl
theorem vM : false = Tryz.checked.prog.looks []:=by kernel_rfl
theorem weightMoves_card : Rows.WeightMovesUptoCardSaid :=
 Claim7.holds_tied_plain_at .later [] [.data,.data,.pinned] true Rows.weightMovesUptoCard.stood.harness false
  vB (fun _ h=>by cases h) (by kernel_rfl) (fun _ h=>by cases h) weightMovesUpto_row_tie rfl ⟨rfl,rfl⟩ (by kernel_rfl) rfl
  (fun f fn hf hfn=>by
   obtain rfl : f = 13:=Option.some.inj ((show Tryz.prog.funcNamed "shipyard/shipyardlaw49.WeightMoves" = some 13 by kernel_rfl).symm.trans hf) |>.symm
   obtain rfl : fn = Tryz.f13:=(Option.some.inj (Tryz.func13.symm.trans hfn)).symm
   exact ⟨vM,fun j t ht=>by
    rw [Tryz.params13] at ht
    have hm : t ∈ [71,35,27]:=by simpa using Array.mem_of_getElem? ht
    have hall : ([71,35,27].all fun u=>!Tryz.prog.wantsStandIn u) = true:=by kernel_rfl
    exact (show Tryz.prog.wantsStandIn t = false by simpa using List.all_eq_true.1 hall t hm)⟩)
  wB
#print axioms weightMoves_card
end Go.Proofs.YtngginofamlkkaaGreatDoor

