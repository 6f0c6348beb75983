/-
  Put together out of several texts, each in its own namespace's block. Conditions: as each theorem states them.
-/
import Derived.Test.YtojlhapbngcjkaaGreatDoorQYj
import Derived.Test.YtojlhapbngcjkaaGreatDoorQYm
import Derived.Test.YtojlhapbngcjkaaGreatDoorRows
import Derived.Test.YtojlhapbngcjkaaGreatDoorChecked
import Derived.JoinedCond
import Derived.Test.YtojlhapbngcjkaaGreatDoorQSgb
import Derived.Test.YtojlhapbngcjkaaGreatDoorQMc
import Derived.Test.YtojlhapbngcjkaaGreatDoorQEva
import Derived.MakeChecks
import Derived.OpenShut
import Derived.ChangeBears2
noncomputable section
namespace Go.Proofs.YtojlhapbngcjkaaGreatDoor
open Go Go.RowKit
set_option maxRecDepth 100000
set_option maxHeartbeats 8000000
def fnJoin : List Value → Option (List Value × Value)
 | [.func (.via 1 p n false) els c, .string sep] => bif p.isEmpty && c.isEmpty && n.beq els.size && els.toList.all isStr && els.size.ble 1000000 && (joinB (els.toList.map toS) sep).size.ble 1000000 then
   some ([.func (.via 1 p n false) els c, .string sep], .string (joinB (els.toList.map toS) sep)) else none
 | _ => none
theorem joinE : FEntryOk Tryz.prog ⟨33, [], fnJoin⟩ := by
 intro us ps v h
 dsimp only at h
 unfold fnJoin at h
 split at h
 case h_2 => cases h
 rename_i p n els c sep
 cases hb : p.isEmpty && c.isEmpty && n.beq els.size && els.toList.all isStr && els.size.ble 1000000 && (joinB (els.toList.map toS) sep).size.ble 1000000 with
 | false => rw [hb] at h; cases h
 | true =>
  rw [hb] at h
  cases h
  rw [Bool.and_eq_true, Bool.and_eq_true] at hb
  obtain ⟨⟨h1, h2⟩, h3⟩ := hb
  exact pure_eq ok_joinV ⟨h1, Nat.le_trans (Nat.le_of_ble_eq_true h2) (by decide), Nat.le_trans (Nat.le_of_ble_eq_true h3) (by decide), rfl⟩
def orcA : ACall := orcF Tryz.prog [⟨33, [], fnJoin⟩, ⟨44, [], fnSum⟩, ⟨7, [], atF [state0] (.string matT)⟩, ⟨9, [], atF [state0] (.string weldT)⟩,
 ⟨19, [(0, 8)], atF [setup0, state0] (.tuple #[.string wtsT, .int .i64 0])⟩, ⟨20, [(0, 8)], atF [setup0, state0] (.tuple #[.string bookT, .int .i64 0])⟩] noA
theorem orcA_ok : ∀ W, CallOk Tryz.prog W orcA := orcF_ok (by
 intro e he
 simp only [List.mem_cons, List.not_mem_nil, or_false] at he
 rcases he with rfl | rfl | rfl | rfl | rfl | rfl
 ·exact joinE
 ·exact sumE
 ·exact atF_ok mat0
 ·exact atF_ok weld0
 ·exact atF_ok wts0
 ·exact atF_ok book0) noA_ok
theorem alive_yields : yieldsO Tryz.prog orcA 1000 6 = true := by kernel_rfl
def c_alive (args : List Value) (Post : Value → Prop) : Prop := args = [] ∧ Post (.bool true)
theorem ok_alive : EntOk Tryz.prog ⟨6, c_alive⟩ := pure_yieldsO mixed orcA_ok alive_yields
def vcDL : VCall := tabCall [⟨5, c_few62⟩, ⟨6, c_alive⟩, ⟨7, c_mat⟩, ⟨8, c_mat⟩, ⟨9, c_wel⟩, ⟨10, c_wel⟩, ⟨12, c_open⟩, ⟨13, c_open⟩, ⟨11, c_sameY⟩] noCall
theorem e_law (x : SetupD) (s : StateD) (H : HT) (Post : PV) : vcP Tryz.prog vcDL 3 [] [setupDV x, stateDV s] H Post = (let q5 := StateD.stock s; let q4 := StateD.design s; let q3 := SetupD.design x; let q1 := #[vi (StateD.now s), vs (Design6.hull q4), tree 3 (List.length (Design6.nodes q4)) (encL (Design6.nodes q4)), tree 18 (List.length (Design6.parts q4)) (encL (Design6.parts q4)), tree 6 (List.length (Design6.seams q4)) (encL (Design6.seams q4)), tree 5 (List.length (Design6.packs q4)) (encL (Design6.packs q4)), tree 3 (List.length (Design6.needs q4)) (encL (Design6.needs q4)), tree 1 (List.length (StateD.orders s)) (encL (StateD.orders s)), tree 6 (List.length (Stock2.sheets q5)) (encL (Stock2.sheets q5)), tree 5 (List.length (Stock2.bars q5)) (encL (Stock2.bars q5)), tree 6 (List.length (StateD.pieces s)) (encL (StateD.pieces s)), tree 6 (List.length (StateD.scrap s)) (encL (StateD.scrap s)), tree 8 (List.length (StateD.welds s)) (encL (StateD.welds s)), tree 1 (List.length (StateD.done s)) (encL (StateD.done s)), tree 8 (List.length (StateD.weighs s)) (encL (StateD.weighs s)), tree 3 (List.length (StateD.raised s)) (encL (StateD.raised s)), tree 4 (List.length (StateD.permits s)) (encL (StateD.permits s)), tree 3 (List.length (StateD.tests s)) (encL (StateD.tests s)), vi (StateD.launched s), vi (StateD.delivered s)]; let q2 := [Value.agg #[tree 4 (List.length (Mats.grades (SetupD.mats x))) (encL (Mats.grades (SetupD.mats x))), tree 4 (List.length (Mats.sects (SetupD.mats x))) (encL (Mats.sects (SetupD.mats x))), tree 6 (List.length (SetupD.bevels x)) (encL (SetupD.bevels x)), tree 6 (List.length (SetupD.procs x)) (encL (SetupD.procs x)), tree 2 (List.length (SetupD.welders x)) (encL (SetupD.welders x)), tree 2 (List.length (SetupD.cranes x)) (encL (SetupD.cranes x)), tree 1 (List.length (Form3.x (SetupD.form x))) (encL (Form3.x (SetupD.form x))), tree 1 (List.length (Form3.z (SetupD.form x))) (encL (Form3.z (SetupD.form x))), tree 1 (List.length (Form3.half (SetupD.form x))) (encL (Form3.half (SetupD.form x))), vi (SetupD.water x), vi (Lim3.depth (SetupD.limits x)), vi (Lim3.height (SetupD.limits x)), vi (Lim3.trim (SetupD.limits x)), tree 3 (List.length (SetupD.tests x)) (encL (SetupD.tests x)), vs (Design6.hull q3), tree 3 (List.length (Design6.nodes q3)) (encL (Design6.nodes q3)), tree 18 (List.length (Design6.parts q3)) (encL (Design6.parts q3)), tree 6 (List.length (Design6.seams q3)) (encL (Design6.seams q3)), tree 5 (List.length (Design6.packs q3)) (encL (Design6.packs q3)), tree 3 (List.length (Design6.needs q3)) (encL (Design6.needs q3))], Value.agg q1]; T4 (∃ (s_1 : StateD), eqL [Value.agg q1] [stateDV s_1] ∧ FitS s_1 ∧ ∀ (b : Bool), pIf b (T2 (True ∧ ∃ (s_2 : StateD), eqL [Value.agg q1] [stateDV s_2] ∧ FitS s_2 ∧ True ∧ ∃ (s_3 : StateD), eqL [Value.agg q1] [stateDV s_3] ∧ FitS s_3 ∧ T2 (pIf (decide (matB s_2 (List.length (Design6.parts (StateD.design s_2))) = matB s_3 (List.length (Design6.parts (StateD.design s_3))))) (T2 (True ∧ ∃ (s_4 : StateD), eqL [Value.agg q1] [stateDV s_4] ∧ FitS s_4 ∧ True ∧ ∃ (s_5 : StateD), eqL [Value.agg q1] [stateDV s_5] ∧ FitS s_5 ∧ T2 (pIf (decide (weldB s_4 (List.length (Design6.seams (StateD.design s_4))) = weldB s_5 (List.length (Design6.seams (StateD.design s_5))))) (T4 (T2 (∃ (x_1 : SetupD), ∃ (s_6 : StateD), eqL q2 [setupDV x_1, stateDV s_6] ∧ FitS s_6 ∧ True ∧ ∃ (x_2 : SetupD), ∃ (s_7 : StateD), eqL q2 [setupDV x_2, stateDV s_7] ∧ FitS s_7 ∧ True ∧ ∃ (l : List ByteArray), eqL [tree 1 (List.length (openL s_6)) (encL (openL s_6)), tree 1 (List.length (openL s_7)) (encL (openL s_7))] [tree 1 l.length (encL l), tree 1 l.length (encL l)] ∧ Short l ∧ T2 (True ∧ eqL [] [] ∧ T4 (Post (vb true)))))) (T4 (T2 (True ∧ Post (vb false))))))) (T8 (Post (vb false)))))) (True ∧ eqL [] [] ∧ T2 (Post (vb true))))) := by kernel_rfl
theorem vcDL_ok : VCallOk Tryz.prog vcDL := tabCall_ok (by
 intro e he
 simp only [List.mem_cons, List.not_mem_nil, or_false] at he
 rcases he with rfl | rfl | rfl | rfl | rfl | rfl | rfl | rfl | rfl
 ·exact ok_few62
 ·exact ok_alive
 ·exact ok_mat
 ·exact ok_rmat ok_rtext
 ·exact ok_wel
 ·exact ok_rwel ok_rtext
 ·exact ok_open
 ·exact ok_ropen
 ·exact ok_rsameY) noCall_ok
theorem openL_len {s : StateD} (hf : FitS s) : Short (openL s) := by
 have h1 := blocks_len hf
 have a0 := stg_len (p := notUp s) (f := ptB) (blocksOf s.design)
 have a1 := stg_len (p := notFit s) (f := ptP) s.design.parts
 have a2 := stg_len (p := notAcc s) (f := ptS) s.design.seams
 have a3 := stg_len (p := notDone s) (f := ptK) s.design.packs
 have a4 := stg_len (p := notPass) (f := ptT) s.tests
 have h2 := hf.parts.1
 have h3 := hf.seams.1
 have h4 := hf.packs.1
 have h5 := hf.tests.1
 unfold openL
 show List.length _ < _
 simp only [List.length_append]
 split
 ·simp only [List.length_singleton]
  omega
 ·simp only [List.length_nil]
  omega
theorem law_DeliveryLists {x : SetupD} {s : StateD} (hf : FitS s) : Pure Tryz.prog 3 [setupDV x, stateDV s] fun v => v = .bool true := by
 refine pure_P vcDL_ok mixed (by kernel_rfl) (by kernel_rfl) _ (e_law x s _ _) ?_
 have hl := openL_len hf
 simp only [true_and, and_true, Nat.le_refl]
 refine ⟨s, rfl, hf, fun b => pIf_intro (fun _ => ⟨s, rfl, hf, s, rfl, hf, ifC (fun _ => ⟨s, rfl, hf, s, rfl, hf, ifC (fun _ => ⟨x, s, rfl, hf, x, s, rfl, hf, openL s, rfl, hl⟩) (fun h => absurd rfl h)⟩) (fun h => absurd rfl h)⟩) (fun _ => trivial)⟩
end Go.Proofs.YtojlhapbngcjkaaGreatDoor
namespace Go.Proofs.YtojlhapbngcjkaaGreatDoor
open Go
theorem deliveryLists_g0 : (Rows.deliveryListsUptoRow.wf (OpenSpec.ofChange (Rows.OpenSpec.upto Rows.deliveryListsSpec).bare)) = true := by kernel_rfl
theorem deliveryLists_g1 : (laidOutB Tryz.checked.prog) = true := by kernel_rfl
theorem deliveryLists_g2 : (mapsRowed Tryz.checked.prog) = true := by kernel_rfl
theorem deliveryLists_g3 : (Tryz.f3.params.all (Tryz.checked.prog.readableRec ·)) = true := by kernel_rfl
theorem deliveryLists_g4 : (namedTie Tryz.checked.prog Rows.deliveryListsUptoRow.named (Rows.OpenSpec.upto Rows.deliveryListsSpec).bare.vars) = true := by kernel_rfl
theorem deliveryLists_g5 : ((Rows.deliveryListsUptoRow.stops == [])) = true := by kernel_rfl
theorem deliveryLists_g6 : ((Tryz.checked.prog.stops == [])) = true := by kernel_rfl
theorem deliveryLists_g7 : ((Rows.deliveryListsUptoRow.knobs == [])) = true := by kernel_rfl
theorem deliveryLists_g8 : ((Tryz.checked.prog.stopKnobs == [])) = true := by kernel_rfl
theorem deliveryLists_g9 : ((Rows.deliveryListsUptoRow.inPlace == Tryz.checked.prog.inPlace 3)) = true := by kernel_rfl
theorem deliveryLists_g10 : ((Rows.deliveryListsUptoRow.unfollowed == Tryz.checked.prog.unfollowed 3)) = true := by kernel_rfl
theorem deliveryLists_g11 : ((Rows.deliveryListsUptoRow.recurses == Tryz.checked.prog.recurses 3)) = true := by kernel_rfl
theorem deliveryLists_g12 : ((Rows.deliveryListsUptoRow.named == Tryz.checked.prog.varsNamed 3)) = true := by kernel_rfl
theorem deliveryLists_g13 : ((Rows.deliveryListsUptoRow.maps == (Tryz.f3.params.toList ++ (Rows.OpenSpec.upto Rows.deliveryListsSpec).bare.plain.varTypes Tryz.checked.prog).any (Tryz.checked.prog.mapsRec ·))) = true := by kernel_rfl
theorem deliveryLists_g14 : ((Rows.deliveryListsUptoRow.ifaces == (Tryz.f3.params.toList ++ (Rows.OpenSpec.upto Rows.deliveryListsSpec).bare.plain.varTypes Tryz.checked.prog).any (Tryz.checked.prog.ifacesRec ·))) = true := by kernel_rfl
theorem deliveryLists_g15 : ((Rows.deliveryListsUptoRow.mapsOut == Tryz.checked.prog.mapsAmong Tryz.f3.resultTypes.toList)) = true := by kernel_rfl
theorem deliveryLists_g16 : ((Rows.deliveryListsUptoRow.loops == (Tryz.f3.params.toList ++ (Rows.OpenSpec.upto Rows.deliveryListsSpec).bare.plain.varTypes Tryz.checked.prog).any (Tryz.checked.prog.loopsFrom ·))) = true := by kernel_rfl
theorem deliveryLists_g17 : ((Rows.deliveryListsUptoRow.wideKeys == (Tryz.f3.params.toList ++ (Rows.OpenSpec.upto Rows.deliveryListsSpec).bare.plain.varTypes Tryz.checked.prog ++ Tryz.f3.resultTypes.toList).any (Tryz.checked.prog.wideKeysFrom ·))) = true := by kernel_rfl
theorem deliveryLists_g18 : ((Rows.OpenSpec.upto Rows.deliveryListsSpec).bare.vars.all (Tryz.checked.prog.varReadable ·)) = true := by kernel_rfl
theorem deliveryLists_g19 : (Tryz.f3.resultTypes.all (fun t => Tryz.checked.prog.readableRec t && decide (t < Tryz.checked.prog.types.size))) = true := by kernel_rfl
theorem deliveryLists_g20 : ((Rows.deliveryListsUptoRow.ifacesOut == Tryz.f3.resultTypes.toList.any (Tryz.checked.prog.ifacesRec ·))) = true := by kernel_rfl
theorem deliveryLists_g21 : ((Rows.deliveryListsUptoRow.loopsOut == Tryz.f3.resultTypes.toList.any (Tryz.checked.prog.loopsFrom ·))) = true := by kernel_rfl
theorem deliveryLists_g22 : ((Rows.deliveryListsUptoRow.plainKeys == Tryz.checked.prog.plainKeys)) = true := by kernel_rfl
theorem deliveryLists_g23 : (Rows.deliveryListsUptoRow.shortTexts.isNone) = true := by kernel_rfl
theorem deliveryLists_g24 : (Tryz.checked.prog.stopsHeard) = true := by kernel_rfl
theorem deliveryLists_g25 : (Tryz.checked.prog.mayEnter) = true := by kernel_rfl
theorem deliveryLists_g26 : ((Rows.deliveryListsUptoRow.lifted == Tryz.checked.prog.liftsFinal)) = true := by kernel_rfl
theorem deliveryLists_g27 : ((Tryz.checked.prog.make == some Rows.deliveryListsUptoRow.make)) = true := by kernel_rfl
theorem deliveryLists_g28 : ((Rows.deliveryListsUptoRow.kinds == (if Rows.deliveryListsUptoRow.domain.isEmpty then [] else Tryz.f3.params.toList.map fun t => match Tryz.checked.prog.underlying t with | some (.int k) => some k | _ => none))) = true := by kernel_rfl
theorem deliveryLists_g29 : ((Rows.deliveryListsUptoRow.pinned == Rows.deliveryListsUptoRow.pinnedBy)) = true := by kernel_rfl
theorem deliveryLists_g30 : ((Rows.deliveryListsUptoRow.veiled == (Tryz.f3.params.toList ++ (Rows.OpenSpec.upto Rows.deliveryListsSpec).bare.plain.varTypes Tryz.checked.prog ++ Tryz.f3.resultTypes.toList).any (Tryz.checked.prog.veiledRec ·))) = true := by kernel_rfl
theorem deliveryLists_g31 : (Rows.deliveryListsUptoRow.veiledFits Tryz.checked.prog Tryz.f3.params.toList (Tryz.f3.params.toList ++ (Rows.OpenSpec.upto Rows.deliveryListsSpec).bare.plain.varTypes Tryz.checked.prog ++ Tryz.f3.resultTypes.toList)) = true := by kernel_rfl
end Go.Proofs.YtojlhapbngcjkaaGreatDoor

namespace Go.Proofs.YtojlhapbngcjkaaGreatDoor
open Go
set_option maxRecDepth 100000
theorem deliveryLists_facts : joinedFacts Tryz.checked.prog 3 Tryz.f3 (Rows.OpenSpec.upto Rows.deliveryListsSpec).bare Rows.deliveryListsUptoRow = true := by
 unfold joinedFacts
 simp only [Bool.and_eq_true]
 exact ⟨⟨⟨⟨⟨⟨⟨⟨⟨⟨⟨⟨⟨⟨⟨⟨⟨⟨⟨⟨⟨⟨⟨⟨⟨⟨⟨⟨⟨⟨⟨deliveryLists_g0, deliveryLists_g1⟩, deliveryLists_g2⟩, deliveryLists_g3⟩, deliveryLists_g4⟩, deliveryLists_g5⟩, deliveryLists_g6⟩, deliveryLists_g7⟩, deliveryLists_g8⟩, deliveryLists_g9⟩, deliveryLists_g10⟩, deliveryLists_g11⟩, deliveryLists_g12⟩, deliveryLists_g13⟩, deliveryLists_g14⟩, deliveryLists_g15⟩, deliveryLists_g16⟩, deliveryLists_g17⟩, deliveryLists_g18⟩, deliveryLists_g19⟩, deliveryLists_g20⟩, deliveryLists_g21⟩, deliveryLists_g22⟩, deliveryLists_g23⟩, deliveryLists_g24⟩, deliveryLists_g25⟩, deliveryLists_g26⟩, deliveryLists_g27⟩, deliveryLists_g28⟩, deliveryLists_g29⟩, deliveryLists_g30⟩, deliveryLists_g31⟩
end Go.Proofs.YtojlhapbngcjkaaGreatDoor

noncomputable section
namespace Go.Proofs.YtojlhapbngcjkaaGreatDoor
open Go Go.RowKit Go.ChangeShapes Go.WideShapes Go.ChangeAt Go.Deep Go.Joins
class Vol (α : Type) where
 vol : α → Nat
 pos : ∀ a, 1 ≤ vol a
instance : Vol Int := ⟨fun _ => 1, fun _ => Nat.le_refl _⟩
instance : Vol Bool := ⟨fun _ => 1, fun _ => Nat.le_refl _⟩
instance : Vol ByteArray := ⟨fun s => 1 + s.size, fun s => Nat.le_add_right _ _⟩
instance {α : Type} [Vol α] : Vol (List α) := ⟨fun l => 1 + (l.map Vol.vol).sum, fun s => Nat.le_add_right _ _⟩
instance {α β : Type} [Vol α] [Vol β] : Vol (α × β) := ⟨fun p => 1 + (Vol.vol p.1 + (Vol.vol p.2 + 0)), fun s => Nat.le_add_right _ _⟩
theorem vol_len {α : Type} [Vol α] (l : List α) : l.length + 1 ≤ Vol.vol l := by
 show _ ≤ 1 + (l.map Vol.vol).sum
 induction l with
 | nil => simp
 | cons a l ih =>
  have := Vol.pos a
  simp only [List.length_cons, List.map_cons, List.sum_cons]
  omega
theorem bulk_pos {H : Type} (d : DataW H) : 1 ≤ Rows.uptoBulk d := by
 cases d with
 | lit l => cases l <;> simp [Rows.uptoBulk]
 | nil => simp [Rows.uptoBulk]
 | ptr d => simp [Rows.uptoBulk]
 | slice elems spare => simp [Rows.uptoBulk]
 | agg parts => simp [Rows.uptoBulk]
 | iface t d => simp [Rows.uptoBulk]
 | map entries => simp [Rows.uptoBulk]
 | held h => simp [Rows.uptoBulk]
theorem bulk_append {H : Type} (l r : List (DataW H)) : Rows.uptoBulkAll (l ++ r) = Rows.uptoBulkAll l + Rows.uptoBulkAll r := by
 induction l with
 | nil => simp [Rows.uptoBulkAll]
 | cons x l ih => simp only [List.cons_append, Rows.uptoBulkAll, ih]; omega
def BK {H : Type} (xs : List (DataW H × List MemPlace)) (k s : Nat) : Prop := s ≤ Rows.uptoBulkAll ((xs.drop k).map (·.1))
def BK1 {H : Type} (xs : List (DataW H × List MemPlace)) (k v : Nat) : Prop := ∃ y, xs[k]? = some y ∧ v ≤ Rows.uptoBulk y.1
theorem BK1.next {H : Type} {xs : List (DataW H × List MemPlace)} {k v s : Nat} (h : BK1 xs k v) (r : BK xs (k + 1) s) : BK xs k (v + s) := by
 obtain ⟨y, h1, h2⟩ := h
 unfold BK at r ⊢
 have hk : k < xs.length := by
  rcases Nat.lt_or_ge k xs.length with h | h
  ·exact h
  ·rw [List.getElem?_eq_none h] at h1; cases h1
 rw [List.drop_eq_getElem_cons hk, List.map_cons]
 rw [List.getElem?_eq_getElem hk] at h1
 cases h1
 simp only [Rows.uptoBulkAll]
 omega
theorem BK.done {H : Type} {xs : List (DataW H × List MemPlace)} {k : Nat} : BK xs k 0 := Nat.zero_le _
theorem BK.agg {H : Type} {xs : List (DataW H × List MemPlace)} {s : Nat} (h : BK xs 0 s) : 1 + s ≤ Rows.uptoBulk (.agg (xs.map (·.1))) := by
 unfold BK at h
 simp only [List.drop_zero] at h
 simp only [Rows.uptoBulk]
 omega
def OpensB (P : Program) (w : World) (t : TypeId) (α : Type) [Enc α] [Vol α] (Ok : α → Prop) : Prop :=
 ∀ (H : Type) (enc : TypeId × Value → H) (base : Nat) (spare : Nat → Bool) (held : Bool) (fuel : Nat) (cs : List Value) (x : DataW H × List MemPlace), DataW.trod enc P w base spare held fuel t cs = some x → ∃ a : α, Ok a ∧ Vol.vol a ≤ Rows.uptoBulk x.1 ∧ VRC (frW w) (Enc.cells a) cs
section
variable {P : Program} {w : World}
theorem opensB_int {t : TypeId} (ht : P.underlying t = some (.int .i64)) : OpensB P w t Int In64 := fun H enc base spare held fuel cs x h => by
 obtain ⟨n, rfl, rfl, hw⟩ := DataW.trod_int ht h
 simp [Lit.wf, IntKind.min, IntKind.max, IntKind.signed, IntKind.bits] at hw
 exact ⟨n, ⟨by omega, by omega⟩, bulk_pos _, .one (.int _ _)⟩
theorem opensB_string {t : TypeId} (ht : P.underlying t = some .string) : OpensB P w t ByteArray fun s => s.size ≤ maxLen := fun H enc base spare held fuel cs x h => by
 obtain ⟨s, rfl, rfl, hs⟩ := DataW.trod_string ht h
 refine ⟨s, hs, ?_, .one (.string _)⟩
 show 1 + s.size ≤ _
 have e : s.data.toList.length = s.size := by rw [Array.length_toList]; rfl
 simp only [Rows.uptoBulk, e]
 omega
theorem opensB_bool {t : TypeId} (ht : P.underlying t = some .bool) : OpensB P w t Bool fun _ => True := fun H enc base spare held fuel cs x h => by
 obtain ⟨b, rfl, rfl⟩ := DataW.trod_bool ht h
 exact ⟨b, trivial, bulk_pos _, .one (.bool _)⟩
theorem tree_open {α : Type} [Enc α] (hz : 0 < Enc.sz α) {a : Addr} {len cap : Nat} {l : List α} (hlen : l.length = len) (hl : len ≤ cap) (h0 : 0 < len)
  (hcl : ∀ (i : Nat) (b : α), l[i]? = some b → ∀ (j : Nat) (v : Value), (Enc.cells b)[j]? = some v → ∃ v', w.cell? ((a.add (i * Enc.sz α)).add j) = some v' ∧ VR0 (frW w) v v') :
  VR0 (frW w) (tree (Enc.sz α) l.length (encL l)) (.slice (some a) len cap) := by
 have cell : ∀ (i j : Nat), i < len → j < Enc.sz α → ∃ v v', (∃ b, l[i]? = some b ∧ (Enc.cells b)[j]? = some v) ∧ w.cell? (a.add (i * Enc.sz α + j)) = some v' ∧ VR0 (frW w) v v' := fun i j hi hj => by
  have hb : l[i]? = some (l[i]'(by omega)) := List.getElem?_eq_getElem (by omega)
  have hv : (Enc.cells (l[i]'(by omega)))[j]? = some ((Enc.cells (l[i]'(by omega)))[j]'(by rw [Enc.len]; exact hj)) := List.getElem?_eq_getElem _
  obtain ⟨v', h1, h2⟩ := hcl i _ hb j _ hv
  rw [Go.Deep.add_add] at h1
  exact ⟨_, v', ⟨_, hb, hv⟩, h1, h2⟩
 obtain ⟨_, v0, _, hv0, _⟩ := cell 0 0 h0 hz
 obtain ⟨cs, ct, fz, hheap, _, hsp⟩ := cell_at hv0
 have hsp := hsp (by omega)
 have at_ : ∀ i j, i < len → j < Enc.sz α → ∃ v v', (∃ b, l[i]? = some b ∧ (Enc.cells b)[j]? = some v) ∧ cs[a.off + (i * Enc.sz α + j)]? = some v' ∧ VR0 (frW w) v v' := fun i j hi hj => by
  obtain ⟨v, v', h1, h2, h3⟩ := cell i j hi hj
  obtain ⟨cs', ct', fz', g1, g2, _⟩ := cell_at h2
  rw [hheap] at g1
  cases g1
  exact ⟨v, v', h1, g2, h3⟩
 obtain ⟨blk, off, spot⟩ := a
 simp only at hsp
 subst hsp
 have hsz : off + len * Enc.sz α ≤ cs.size := by
  obtain ⟨_, v', _, h2, _⟩ := at_ (len - 1) (Enc.sz α - 1) (by omega) (by omega)
  have hlt : off + ((len - 1) * Enc.sz α + (Enc.sz α - 1)) < cs.size := (Array.getElem?_eq_some_iff.1 h2).1
  have : len * Enc.sz α = (len - 1) * Enc.sz α + Enc.sz α := by
   obtain ⟨k, rfl⟩ : ∃ k, len = k + 1 := ⟨len - 1, by omega⟩
   rw [Nat.succ_mul]
   simp
  omega
 have hget : ∀ (i : Nat) (u : Value), (encL l)[i]? = some u → ∃ b, l[i]? = some b ∧ u = elt (Enc.cells b) := fun i u hu => by
  unfold encL at hu
  simp only [List.getElem?_toArray, List.getElem?_map, Option.map_eq_some_iff] at hu
  obtain ⟨b, h1, h2⟩ := hu
  exact ⟨b, h1, h2.symm⟩
 rw [hlen]
 refine VR0.tree (c := blk) (o := off) (cs := cs) (t := ct) (fz := fz) hheap (by simp [encL, hlen]) hl hsz (fun i u hu => ?_) (fun i j u v v' hu hv hv' => ?_)
 ·obtain ⟨b, _, rfl⟩ := hget i u hu
  simp [elt_cells (Enc.nl b), Enc.len]
 ·obtain ⟨b, hb, rfl⟩ := hget i u hu
  have hv2 : (Enc.cells b)[j]? = some v := by simpa [elt_cells (Enc.nl b)] using hv
  have hil : i < len := by
   rcases Nat.lt_or_ge i len with h' | h'
   ·exact h'
   ·rw [List.getElem?_eq_none (by omega)] at hb; cases hb
  have hjl : j < Enc.sz α := by
   rw [← Enc.len b]
   rcases Nat.lt_or_ge j (Enc.cells b).length with h' | h'
   ·exact h'
   ·rw [List.getElem?_eq_none h'] at hv2; cases hv2
  obtain ⟨v1, v1', ⟨b1, e1, e2⟩, e3, e4⟩ := at_ i j hil hjl
  rw [hb] at e1
  cases e1
  rw [hv2] at e2
  cases e2
  rw [show off + i * Enc.sz α + j = off + (i * Enc.sz α + j) by omega] at hv'
  have : v1' = v' := by
   have e3' : cs[off + (i * Enc.sz α + j)]? = some v1' := e3
   rw [hv'] at e3'
   cases e3'
   rfl
  subst this
  exact e4
theorem opensB_slice {t e : TypeId} {α : Type} [Enc α] [Vol α] {Ok : α → Prop} (ht : P.underlying t = some (.slice e)) (he : OpensB P w e α Ok) (hc : P.cellsOf e = Enc.sz α) (hz : 0 < Enc.sz α) :
  OpensB P w t (List α) fun l => l.length ≤ maxLen ∧ ∀ a ∈ l, Ok a := fun H enc base spare held fuel cs x h => by
 rcases open_slice ht h with ⟨rfl, rfl⟩ | ⟨a, len, cap, m, n, D, Pl, rfl, _, hl, hm, hmm, rfl, hi⟩
 ·exact ⟨[], ⟨Nat.zero_le _, fun a ha => by cases ha⟩, bulk_pos _, .one (.treeNil _ _ _)⟩
 rw [hc] at hi
 have hlm : len ≤ m := by rw [hmm]; split <;> omega
 have key : ∀ i, i < len → ∃ b : α, Ok b ∧ Vol.vol b ≤ Rows.uptoBulk (D i) ∧ ∀ (j : Nat) (v : Value), (Enc.cells b)[j]? = some v → ∃ v', w.cell? ((a.add (i * Enc.sz α)).add j) = some v' ∧ VR0 (frW w) v v' := by
  intro i hil
  obtain ⟨cs', h1, h2⟩ := hi i (by omega)
  obtain ⟨_, h3, h4⟩ := World.cells?_some h1
  obtain ⟨b, hb, hbv, hv⟩ := he H enc _ _ _ _ _ _ h2
  refine ⟨b, hb, hbv, fun j v hj => ?_⟩
  have hjl : j < Enc.sz α := by
   rw [← Enc.len b]
   rcases Nat.lt_or_ge j (Enc.cells b).length with h' | h'
   ·exact h'
   ·rw [List.getElem?_eq_none h'] at hj; cases hj
  have hj' : cs'[j]? = some (cs'[j]'(by omega)) := List.getElem?_eq_getElem (by omega)
  exact ⟨_, (h4 j hjl).trans hj', hv.2 j v _ hj hj'⟩
 have build : ∀ k, k ≤ len → ∃ l : List α, l.length = k ∧ (∀ b ∈ l, Ok b) ∧ (l.map Vol.vol).sum ≤ Rows.uptoBulkAll ((List.range k).map D) ∧ ∀ (i : Nat) (b : α), l[i]? = some b → ∀ (j : Nat) (v : Value), (Enc.cells b)[j]? = some v → ∃ v', w.cell? ((a.add (i * Enc.sz α)).add j) = some v' ∧ VR0 (frW w) v v' := by
  intro k
  induction k with
  | zero => exact fun _ => ⟨[], rfl, by simp, by simp, by simp⟩
  | succ k ih =>
   intro hk
   obtain ⟨l, e1, hin, hbu, hcl⟩ := ih (by omega)
   obtain ⟨b, hb, hbv, hbc⟩ := key k (by omega)
   refine ⟨l ++ [b], by simp [e1], fun x hx => ?_, ?_, fun i x hx => ?_⟩
   ·rcases List.mem_append.1 hx with hx | hx
    ·exact hin x hx
    ·simp at hx; subst hx; exact hb
   ·simp only [List.range_succ, List.map_append, bulk_append, List.sum_append, List.map_cons, List.map_nil, List.sum_cons, List.sum_nil, Rows.uptoBulkAll]
    omega
   ·rcases Nat.lt_or_ge i k with hik | hik
    ·rw [List.getElem?_append_left (by omega)] at hx
     exact hcl i x hx
    ·rw [List.getElem?_append_right (by omega), e1] at hx
     have : i = k := by
      rcases Nat.lt_or_ge k i with h' | h'
      ·rw [List.getElem?_eq_none (by simp; omega)] at hx; cases hx
      ·omega
     subst this
     simp at hx
     subst hx
     exact hbc
 obtain ⟨l, hlen, hok, hbu, hcl⟩ := build len (Nat.le_refl _)
 refine ⟨l, ⟨by omega, hok⟩, ?_, .one ?_⟩
 ·show 1 + (l.map Vol.vol).sum ≤ _
  simp only [Rows.uptoBulk]
  omega
 rcases Nat.eq_zero_or_pos len with h0 | h0
 ·subst h0
  have : l = [] := List.eq_nil_of_length_eq_zero hlen
  subst this
  exact .treeNil _ _ _
 exact tree_open hz hlen hl h0 hcl
theorem fieldB {t : TypeId} {α : Type} [Enc α] [Vol α] {Ok : α → Prop} (ho : OpensB P w t α Ok) {H : Type} {enc : TypeId × Value → H} {base : Nat} {spare : Nat → Bool} {held : Bool} {fuel : Nat} {cs : List Value} {xs : List (DataW H × List MemPlace)} {i : Nat}
  (h : DataW.trod enc P w base spare held fuel t cs = xs[i]?) (hi : i < xs.length) : ∃ a : α, Ok a ∧ BK1 xs i (Vol.vol a) ∧ VRC (frW w) (Enc.cells a) cs := by
 have hg := List.getElem?_eq_getElem hi
 obtain ⟨a, h1, h2, h3⟩ := ho H enc _ _ _ _ _ _ (h.trans hg)
 exact ⟨a, h1, ⟨_, hg, h2⟩, h3⟩
theorem open_argB {t : TypeId} {α : Type} [Enc α] [Vol α] {Ok : α → Prop} (ho : OpensB P w t α Ok) {H : Type} {enc : TypeId × Value → H} {base : Nat} {spare : Nat → Bool} {held : Bool} {v : Value} {d : DataW H} {p : List MemPlace} (h : DataW.Trod enc P w base spare held t v d p) :
  ∃ a : α, Ok a ∧ Vol.vol a ≤ Rows.uptoBulk d ∧ VRC (frW w) (Enc.cells a) v.cells.toList := by
 obtain ⟨fuel, hf⟩ := h
 exact ho H enc _ _ _ _ _ _ hf
end
end Go.Proofs.YtojlhapbngcjkaaGreatDoor

noncomputable section
namespace Go.Proofs.YtojlhapbngcjkaaGreatDoor
open Go Go.RowKit Go.ChangeShapes Go.WideShapes Go.ChangeAt Go.Deep Go.Joins
set_option maxRecDepth 100000
instance : Vol Pt := ⟨fun p => 1 + (Vol.vol p.x + (Vol.vol p.y + (0))), fun _ => Nat.le_add_right _ _⟩
def okPt (p : Pt) : Prop := In64 p.x ∧ In64 p.y
theorem opensB_Pt {w : World} : OpensB Tryz.prog w 242 Pt okPt := fun H enc base spare held fuel cs x h => by
 obtain ⟨xs, n, _, rfl, hlen, hxs, hf⟩ := DataW.trod_struct Tryz.underlying242 h
 have hc : Tryz.prog.cellsOf 242 = 2 := by kernel_rfl
 obtain ⟨b0, k0, u0, v0⟩ := fieldB (opensB_int Tryz.underlying3) (hf 0 _ rfl) (by rw [hxs]; decide)
 obtain ⟨b1, k1, u1, v1⟩ := fieldB (opensB_int Tryz.underlying3) (hf 1 _ rfl) (by rw [hxs]; decide)
 have hb := BK.agg (u0.next (u1.next (BK.done)))
 refine ⟨⟨b0, b1⟩, ⟨k0, k1⟩, hb, v0.next (v1.next (VRC.done (n := 2) (hlen.trans hc)))⟩
theorem opensB_Pts {w : World} : OpensB Tryz.prog w 82 (List Pt) fun l => l.length ≤ maxLen ∧ ∀ a ∈ l, okPt a := opensB_slice Tryz.underlying82 opensB_Pt (by kernel_rfl) (by decide)
instance : Vol Vec3 := ⟨fun p => 1 + (Vol.vol p.x + (Vol.vol p.y + (Vol.vol p.z + (0)))), fun _ => Nat.le_add_right _ _⟩
def okVec3 (p : Vec3) : Prop := In64 p.x ∧ In64 p.y ∧ In64 p.z
theorem opensB_Vec3 {w : World} : OpensB Tryz.prog w 87 Vec3 okVec3 := fun H enc base spare held fuel cs x h => by
 obtain ⟨xs, n, _, rfl, hlen, hxs, hf⟩ := DataW.trod_struct Tryz.underlying87 h
 have hc : Tryz.prog.cellsOf 87 = 3 := by kernel_rfl
 obtain ⟨b0, k0, u0, v0⟩ := fieldB (opensB_int Tryz.underlying3) (hf 0 _ rfl) (by rw [hxs]; decide)
 obtain ⟨b1, k1, u1, v1⟩ := fieldB (opensB_int Tryz.underlying3) (hf 1 _ rfl) (by rw [hxs]; decide)
 obtain ⟨b2, k2, u2, v2⟩ := fieldB (opensB_int Tryz.underlying3) (hf 2 _ rfl) (by rw [hxs]; decide)
 have hb := BK.agg (u0.next (u1.next (u2.next (BK.done))))
 refine ⟨⟨b0, b1, b2⟩, ⟨k0, k1, k2⟩, hb, v0.next (v1.next (v2.next (VRC.done (n := 3) (hlen.trans hc))))⟩
theorem opensB_shape {w : World} : OpensB Tryz.prog w 85 (List Pt × List (List Pt)) fun p => (p.1.length ≤ maxLen ∧ ∀ a ∈ p.1, okPt a) ∧ (p.2.length ≤ maxLen ∧ ∀ l ∈ p.2, l.length ≤ maxLen ∧ ∀ a ∈ l, okPt a) := fun H enc base spare held fuel cs x h => by
 obtain ⟨xs, n, _, rfl, hlen, hxs, hf⟩ := DataW.trod_struct Tryz.underlying85 h
 have hc : Tryz.prog.cellsOf 85 = 2 := by kernel_rfl
 obtain ⟨b0, k0, u0, v0⟩ := fieldB opensB_Pts (hf 0 _ rfl) (by rw [hxs]; decide)
 obtain ⟨b1, k1, u1, v1⟩ := fieldB (opensB_slice Tryz.underlying83 opensB_Pts (by kernel_rfl) (by decide)) (hf 1 _ rfl) (by rw [hxs]; decide)
 have hb := BK.agg (u0.next (u1.next BK.done))
 exact ⟨⟨b0, b1⟩, ⟨k0, k1⟩, hb, v0.next (v1.next (VRC.done (n := 2) (hlen.trans hc)))⟩
theorem opensB_place {w : World} : OpensB Tryz.prog w 89 (Vec3 × Int) fun p => okVec3 p.1 ∧ In64 p.2 := fun H enc base spare held fuel cs x h => by
 obtain ⟨xs, n, _, rfl, hlen, hxs, hf⟩ := DataW.trod_struct Tryz.underlying89 h
 have hc : Tryz.prog.cellsOf 89 = 4 := by kernel_rfl
 obtain ⟨b0, k0, u0, v0⟩ := fieldB opensB_Vec3 (hf 0 _ rfl) (by rw [hxs]; decide)
 obtain ⟨b1, k1, u1, v1⟩ := fieldB (opensB_int Tryz.underlying3) (hf 1 _ rfl) (by rw [hxs]; decide)
 have hb := BK.agg (u0.next (u1.next BK.done))
 exact ⟨⟨b0, b1⟩, ⟨k0, k1⟩, hb, v0.next (v1.next (VRC.done (n := 4) (hlen.trans hc)))⟩
instance : Vol Part := ⟨fun p => 1 + (Vol.vol p.id + (Vol.vol p.rev + (Vol.vol p.kind + (Vol.vol p.node + (Vol.vol p.grade + (Vol.vol p.thick + (Vol.vol p.outer + (Vol.vol p.holes + (Vol.vol p.sect + (Vol.vol p.long + (Vol.vol p.mass + (Vol.vol p.centre + (Vol.vol p.at_ + (Vol.vol p.turn + (0))))))))))))))), fun _ => Nat.le_add_right _ _⟩
abbrev okPart (p : Part) : Prop := InPart p
set_option maxHeartbeats 2000000 in
theorem opensB_Part {w : World} : OpensB Tryz.prog w 91 Part okPart := fun H enc base spare held fuel cs x h => by
 obtain ⟨xs, n, _, rfl, hlen, hxs, hf⟩ := DataW.trod_struct Tryz.underlying91 h
 have hc : Tryz.prog.cellsOf 91 = 18 := by kernel_rfl
 obtain ⟨b0, k0, u0, v0⟩ := fieldB (opensB_string Tryz.underlying9) (hf 0 _ rfl) (by rw [hxs]; decide)
 obtain ⟨b1, k1, u1, v1⟩ := fieldB (opensB_int Tryz.underlying3) (hf 1 _ rfl) (by rw [hxs]; decide)
 obtain ⟨b2, k2, u2, v2⟩ := fieldB (opensB_int Tryz.underlying3) (hf 2 _ rfl) (by rw [hxs]; decide)
 obtain ⟨b3, k3, u3, v3⟩ := fieldB (opensB_string Tryz.underlying9) (hf 3 _ rfl) (by rw [hxs]; decide)
 obtain ⟨b4, k4, u4, v4⟩ := fieldB (opensB_string Tryz.underlying9) (hf 4 _ rfl) (by rw [hxs]; decide)
 obtain ⟨b5, k5, u5, v5⟩ := fieldB (opensB_int Tryz.underlying3) (hf 5 _ rfl) (by rw [hxs]; decide)
 obtain ⟨b6, k6, u6, v6⟩ := fieldB opensB_shape (hf 6 _ rfl) (by rw [hxs]; decide)
 obtain ⟨b7, k7, u7, v7⟩ := fieldB (opensB_string Tryz.underlying9) (hf 7 _ rfl) (by rw [hxs]; decide)
 obtain ⟨b8, k8, u8, v8⟩ := fieldB (opensB_int Tryz.underlying3) (hf 8 _ rfl) (by rw [hxs]; decide)
 obtain ⟨b9, k9, u9, v9⟩ := fieldB (opensB_int Tryz.underlying3) (hf 9 _ rfl) (by rw [hxs]; decide)
 obtain ⟨b10, k10, u10, v10⟩ := fieldB opensB_Vec3 (hf 10 _ rfl) (by rw [hxs]; decide)
 obtain ⟨b11, k11, u11, v11⟩ := fieldB opensB_place (hf 11 _ rfl) (by rw [hxs]; decide)
 have hb := BK.agg (u0.next (u1.next (u2.next (u3.next (u4.next (u5.next (u6.next (u7.next (u8.next (u9.next (u10.next (u11.next (BK.done)))))))))))))
 refine ⟨⟨b0, b1, b2, b3, b4, b5, b6.1, b6.2, b7, b8, b9, b10, b11.1, b11.2⟩, ⟨k1, k2, k5, k6.1.2, fun l hl => (k6.2.2 l hl).2, k8, k9, k10, k11.1, k11.2, k0, k3, k4, k7⟩, ?_, ?_⟩
 ·refine Nat.le_trans ?_ hb
  clear hb u0 u1 u2 u3 u4 u5 u6 u7 u8 u9 u10 u11 v0 v1 v2 v3 v4 v5 v6 v7 v8 v9 v10 v11
  have e6 : Vol.vol b6 = 1 + (Vol.vol b6.1 + (Vol.vol b6.2 + 0)) := rfl
  have e11 : Vol.vol b11 = 1 + (Vol.vol b11.1 + (Vol.vol b11.2 + 0)) := rfl
  show 1 + (Vol.vol b0 + (Vol.vol b1 + (Vol.vol b2 + (Vol.vol b3 + (Vol.vol b4 + (Vol.vol b5 + (Vol.vol b6.1 + (Vol.vol b6.2 + (Vol.vol b7 + (Vol.vol b8 + (Vol.vol b9 + (Vol.vol b10 + (Vol.vol b11.1 + (Vol.vol b11.2 + (0))))))))))))))) ≤ _
  rw [e6, e11]
  clear e6 e11
  generalize Vol.vol b0 = a0
  generalize Vol.vol b1 = a1
  generalize Vol.vol b2 = a2
  generalize Vol.vol b3 = a3
  generalize Vol.vol b4 = a4
  generalize Vol.vol b5 = a5
  generalize Vol.vol b6.1 = a6
  generalize Vol.vol b6.2 = a7
  generalize Vol.vol b7 = a8
  generalize Vol.vol b8 = a9
  generalize Vol.vol b9 = a10
  generalize Vol.vol b10 = a11
  generalize Vol.vol b11.1 = a12
  generalize Vol.vol b11.2 = a13
  omega
 ·exact v0.next (v1.next (v2.next (v3.next (v4.next (v5.next (v6.next (v7.next (v8.next (v9.next (v10.next (v11.next (VRC.done (n := 18) (hlen.trans hc)))))))))))))
instance : Vol Node3 := ⟨fun p => 1 + (Vol.vol p.id + (Vol.vol p.kind + (Vol.vol p.parent + (0)))), fun _ => Nat.le_add_right _ _⟩
def okNode3 (p : Node3) : Prop := p.id.size ≤ maxLen ∧ In64 p.kind ∧ p.parent.size ≤ maxLen
theorem opensB_Node3 {w : World} : OpensB Tryz.prog w 123 Node3 okNode3 := fun H enc base spare held fuel cs x h => by
 obtain ⟨xs, n, _, rfl, hlen, hxs, hf⟩ := DataW.trod_struct Tryz.underlying123 h
 have hc : Tryz.prog.cellsOf 123 = 3 := by kernel_rfl
 obtain ⟨b0, k0, u0, v0⟩ := fieldB (opensB_string Tryz.underlying9) (hf 0 _ rfl) (by rw [hxs]; decide)
 obtain ⟨b1, k1, u1, v1⟩ := fieldB (opensB_int Tryz.underlying3) (hf 1 _ rfl) (by rw [hxs]; decide)
 obtain ⟨b2, k2, u2, v2⟩ := fieldB (opensB_string Tryz.underlying9) (hf 2 _ rfl) (by rw [hxs]; decide)
 have hb := BK.agg (u0.next (u1.next (u2.next (BK.done))))
 refine ⟨⟨b0, b1, b2⟩, ⟨k0, k1, k2⟩, hb, v0.next (v1.next (v2.next (VRC.done (n := 3) (hlen.trans hc))))⟩
instance : Vol Seam6 := ⟨fun p => 1 + (Vol.vol p.id + (Vol.vol p.a + (Vol.vol p.b + (Vol.vol p.kind + (Vol.vol p.long + (Vol.vol p.cls + (0))))))), fun _ => Nat.le_add_right _ _⟩
def okSeam6 (p : Seam6) : Prop := p.id.size ≤ maxLen ∧ p.a.size ≤ maxLen ∧ p.b.size ≤ maxLen ∧ In64 p.kind ∧ In64 p.long ∧ In64 p.cls
theorem opensB_Seam6 {w : World} : OpensB Tryz.prog w 101 Seam6 okSeam6 := fun H enc base spare held fuel cs x h => by
 obtain ⟨xs, n, _, rfl, hlen, hxs, hf⟩ := DataW.trod_struct Tryz.underlying101 h
 have hc : Tryz.prog.cellsOf 101 = 6 := by kernel_rfl
 obtain ⟨b0, k0, u0, v0⟩ := fieldB (opensB_string Tryz.underlying9) (hf 0 _ rfl) (by rw [hxs]; decide)
 obtain ⟨b1, k1, u1, v1⟩ := fieldB (opensB_string Tryz.underlying9) (hf 1 _ rfl) (by rw [hxs]; decide)
 obtain ⟨b2, k2, u2, v2⟩ := fieldB (opensB_string Tryz.underlying9) (hf 2 _ rfl) (by rw [hxs]; decide)
 obtain ⟨b3, k3, u3, v3⟩ := fieldB (opensB_int Tryz.underlying3) (hf 3 _ rfl) (by rw [hxs]; decide)
 obtain ⟨b4, k4, u4, v4⟩ := fieldB (opensB_int Tryz.underlying3) (hf 4 _ rfl) (by rw [hxs]; decide)
 obtain ⟨b5, k5, u5, v5⟩ := fieldB (opensB_int Tryz.underlying3) (hf 5 _ rfl) (by rw [hxs]; decide)
 have hb := BK.agg (u0.next (u1.next (u2.next (u3.next (u4.next (u5.next (BK.done)))))))
 refine ⟨⟨b0, b1, b2, b3, b4, b5⟩, ⟨k0, k1, k2, k3, k4, k5⟩, hb, v0.next (v1.next (v2.next (v3.next (v4.next (v5.next (VRC.done (n := 6) (hlen.trans hc)))))))⟩
instance : Vol Pack5 := ⟨fun p => 1 + (Vol.vol p.id + (Vol.vol p.block + (Vol.vol p.parts + (Vol.vol p.hours + (Vol.vol p.after + (0)))))), fun _ => Nat.le_add_right _ _⟩
def okPack5 (p : Pack5) : Prop := p.id.size ≤ maxLen ∧ p.block.size ≤ maxLen ∧ (p.parts.length ≤ maxLen ∧ ∀ a ∈ p.parts, a.size ≤ maxLen) ∧ In64 p.hours ∧ (p.after.length ≤ maxLen ∧ ∀ a ∈ p.after, a.size ≤ maxLen)
theorem opensB_Pack5 {w : World} : OpensB Tryz.prog w 114 Pack5 okPack5 := fun H enc base spare held fuel cs x h => by
 obtain ⟨xs, n, _, rfl, hlen, hxs, hf⟩ := DataW.trod_struct Tryz.underlying114 h
 have hc : Tryz.prog.cellsOf 114 = 5 := by kernel_rfl
 obtain ⟨b0, k0, u0, v0⟩ := fieldB (opensB_string Tryz.underlying9) (hf 0 _ rfl) (by rw [hxs]; decide)
 obtain ⟨b1, k1, u1, v1⟩ := fieldB (opensB_string Tryz.underlying9) (hf 1 _ rfl) (by rw [hxs]; decide)
 obtain ⟨b2, k2, u2, v2⟩ := fieldB (opensB_slice Tryz.underlying46 (opensB_string Tryz.underlying9) (by kernel_rfl) (by decide)) (hf 2 _ rfl) (by rw [hxs]; decide)
 obtain ⟨b3, k3, u3, v3⟩ := fieldB (opensB_int Tryz.underlying3) (hf 3 _ rfl) (by rw [hxs]; decide)
 obtain ⟨b4, k4, u4, v4⟩ := fieldB (opensB_slice Tryz.underlying46 (opensB_string Tryz.underlying9) (by kernel_rfl) (by decide)) (hf 4 _ rfl) (by rw [hxs]; decide)
 have hb := BK.agg (u0.next (u1.next (u2.next (u3.next (u4.next (BK.done))))))
 refine ⟨⟨b0, b1, b2, b3, b4⟩, ⟨k0, k1, k2, k3, k4⟩, hb, v0.next (v1.next (v2.next (v3.next (v4.next (VRC.done (n := 5) (hlen.trans hc))))))⟩
instance : Vol Need3 := ⟨fun p => 1 + (Vol.vol p.kind + (Vol.vol p.block + (Vol.vol p.on + (0)))), fun _ => Nat.le_add_right _ _⟩
def okNeed3 (p : Need3) : Prop := In64 p.kind ∧ p.block.size ≤ maxLen ∧ p.on.size ≤ maxLen
theorem opensB_Need3 {w : World} : OpensB Tryz.prog w 177 Need3 okNeed3 := fun H enc base spare held fuel cs x h => by
 obtain ⟨xs, n, _, rfl, hlen, hxs, hf⟩ := DataW.trod_struct Tryz.underlying177 h
 have hc : Tryz.prog.cellsOf 177 = 3 := by kernel_rfl
 obtain ⟨b0, k0, u0, v0⟩ := fieldB (opensB_int Tryz.underlying3) (hf 0 _ rfl) (by rw [hxs]; decide)
 obtain ⟨b1, k1, u1, v1⟩ := fieldB (opensB_string Tryz.underlying9) (hf 1 _ rfl) (by rw [hxs]; decide)
 obtain ⟨b2, k2, u2, v2⟩ := fieldB (opensB_string Tryz.underlying9) (hf 2 _ rfl) (by rw [hxs]; decide)
 have hb := BK.agg (u0.next (u1.next (u2.next (BK.done))))
 refine ⟨⟨b0, b1, b2⟩, ⟨k0, k1, k2⟩, hb, v0.next (v1.next (v2.next (VRC.done (n := 3) (hlen.trans hc))))⟩
instance : Vol Design6 := ⟨fun p => 1 + (Vol.vol p.hull + (Vol.vol p.nodes + (Vol.vol p.parts + (Vol.vol p.seams + (Vol.vol p.packs + (Vol.vol p.needs + (0))))))), fun _ => Nat.le_add_right _ _⟩
def okDesign6 (p : Design6) : Prop := p.hull.size ≤ maxLen ∧ (p.nodes.length ≤ maxLen ∧ ∀ a ∈ p.nodes, okNode3 a) ∧ (p.parts.length ≤ maxLen ∧ ∀ a ∈ p.parts, okPart a) ∧ (p.seams.length ≤ maxLen ∧ ∀ a ∈ p.seams, okSeam6 a) ∧ (p.packs.length ≤ maxLen ∧ ∀ a ∈ p.packs, okPack5 a) ∧ (p.needs.length ≤ maxLen ∧ ∀ a ∈ p.needs, okNeed3 a)
theorem opensB_Design6 {w : World} : OpensB Tryz.prog w 43 Design6 okDesign6 := fun H enc base spare held fuel cs x h => by
 obtain ⟨xs, n, _, rfl, hlen, hxs, hf⟩ := DataW.trod_struct Tryz.underlying43 h
 have hc : Tryz.prog.cellsOf 43 = 6 := by kernel_rfl
 obtain ⟨b0, k0, u0, v0⟩ := fieldB (opensB_string Tryz.underlying9) (hf 0 _ rfl) (by rw [hxs]; decide)
 obtain ⟨b1, k1, u1, v1⟩ := fieldB (opensB_slice Tryz.underlying37 opensB_Node3 (by kernel_rfl) (by decide)) (hf 1 _ rfl) (by rw [hxs]; decide)
 obtain ⟨b2, k2, u2, v2⟩ := fieldB (opensB_slice Tryz.underlying38 opensB_Part (by kernel_rfl) (by decide)) (hf 2 _ rfl) (by rw [hxs]; decide)
 obtain ⟨b3, k3, u3, v3⟩ := fieldB (opensB_slice Tryz.underlying39 opensB_Seam6 (by kernel_rfl) (by decide)) (hf 3 _ rfl) (by rw [hxs]; decide)
 obtain ⟨b4, k4, u4, v4⟩ := fieldB (opensB_slice Tryz.underlying40 opensB_Pack5 (by kernel_rfl) (by decide)) (hf 4 _ rfl) (by rw [hxs]; decide)
 obtain ⟨b5, k5, u5, v5⟩ := fieldB (opensB_slice Tryz.underlying41 opensB_Need3 (by kernel_rfl) (by decide)) (hf 5 _ rfl) (by rw [hxs]; decide)
 have hb := BK.agg (u0.next (u1.next (u2.next (u3.next (u4.next (u5.next (BK.done)))))))
 refine ⟨⟨b0, b1, b2, b3, b4, b5⟩, ⟨k0, k1, k2, k3, k4, k5⟩, hb, v0.next (v1.next (v2.next (v3.next (v4.next (v5.next (VRC.done (n := 6) (hlen.trans hc)))))))⟩
instance : Vol Grade4 := ⟨fun p => 1 + (Vol.vol p.name + (Vol.vol p.dens + (Vol.vol p.yld + (Vol.vol p.gauges + (0))))), fun _ => Nat.le_add_right _ _⟩
def okGrade4 (p : Grade4) : Prop := p.name.size ≤ maxLen ∧ In64 p.dens ∧ In64 p.yld ∧ (p.gauges.length ≤ maxLen ∧ ∀ a ∈ p.gauges, In64 a)
theorem opensB_Grade4 {w : World} : OpensB Tryz.prog w 267 Grade4 okGrade4 := fun H enc base spare held fuel cs x h => by
 obtain ⟨xs, n, _, rfl, hlen, hxs, hf⟩ := DataW.trod_struct Tryz.underlying267 h
 have hc : Tryz.prog.cellsOf 267 = 4 := by kernel_rfl
 obtain ⟨b0, k0, u0, v0⟩ := fieldB (opensB_string Tryz.underlying9) (hf 0 _ rfl) (by rw [hxs]; decide)
 obtain ⟨b1, k1, u1, v1⟩ := fieldB (opensB_int Tryz.underlying3) (hf 1 _ rfl) (by rw [hxs]; decide)
 obtain ⟨b2, k2, u2, v2⟩ := fieldB (opensB_int Tryz.underlying3) (hf 2 _ rfl) (by rw [hxs]; decide)
 obtain ⟨b3, k3, u3, v3⟩ := fieldB (opensB_slice Tryz.underlying30 (opensB_int Tryz.underlying3) (by kernel_rfl) (by decide)) (hf 3 _ rfl) (by rw [hxs]; decide)
 have hb := BK.agg (u0.next (u1.next (u2.next (u3.next (BK.done)))))
 refine ⟨⟨b0, b1, b2, b3⟩, ⟨k0, k1, k2, k3⟩, hb, v0.next (v1.next (v2.next (v3.next (VRC.done (n := 4) (hlen.trans hc)))))⟩
instance : Vol Sect4 := ⟨fun p => 1 + (Vol.vol p.name + (Vol.vol p.area + (Vol.vol p.height + (Vol.vol p.stock + (0))))), fun _ => Nat.le_add_right _ _⟩
def okSect4 (p : Sect4) : Prop := p.name.size ≤ maxLen ∧ In64 p.area ∧ In64 p.height ∧ In64 p.stock
theorem opensB_Sect4 {w : World} : OpensB Tryz.prog w 270 Sect4 okSect4 := fun H enc base spare held fuel cs x h => by
 obtain ⟨xs, n, _, rfl, hlen, hxs, hf⟩ := DataW.trod_struct Tryz.underlying270 h
 have hc : Tryz.prog.cellsOf 270 = 4 := by kernel_rfl
 obtain ⟨b0, k0, u0, v0⟩ := fieldB (opensB_string Tryz.underlying9) (hf 0 _ rfl) (by rw [hxs]; decide)
 obtain ⟨b1, k1, u1, v1⟩ := fieldB (opensB_int Tryz.underlying3) (hf 1 _ rfl) (by rw [hxs]; decide)
 obtain ⟨b2, k2, u2, v2⟩ := fieldB (opensB_int Tryz.underlying3) (hf 2 _ rfl) (by rw [hxs]; decide)
 obtain ⟨b3, k3, u3, v3⟩ := fieldB (opensB_int Tryz.underlying3) (hf 3 _ rfl) (by rw [hxs]; decide)
 have hb := BK.agg (u0.next (u1.next (u2.next (u3.next (BK.done)))))
 refine ⟨⟨b0, b1, b2, b3⟩, ⟨k0, k1, k2, k3⟩, hb, v0.next (v1.next (v2.next (v3.next (VRC.done (n := 4) (hlen.trans hc)))))⟩
instance : Vol Mats := ⟨fun p => 1 + (Vol.vol p.grades + (Vol.vol p.sects + (0))), fun _ => Nat.le_add_right _ _⟩
def okMats (p : Mats) : Prop := (p.grades.length ≤ maxLen ∧ ∀ a ∈ p.grades, okGrade4 a) ∧ (p.sects.length ≤ maxLen ∧ ∀ a ∈ p.sects, okSect4 a)
theorem opensB_Mats {w : World} : OpensB Tryz.prog w 25 Mats okMats := fun H enc base spare held fuel cs x h => by
 obtain ⟨xs, n, _, rfl, hlen, hxs, hf⟩ := DataW.trod_struct Tryz.underlying25 h
 have hc : Tryz.prog.cellsOf 25 = 2 := by kernel_rfl
 obtain ⟨b0, k0, u0, v0⟩ := fieldB (opensB_slice Tryz.underlying22 opensB_Grade4 (by kernel_rfl) (by decide)) (hf 0 _ rfl) (by rw [hxs]; decide)
 obtain ⟨b1, k1, u1, v1⟩ := fieldB (opensB_slice Tryz.underlying23 opensB_Sect4 (by kernel_rfl) (by decide)) (hf 1 _ rfl) (by rw [hxs]; decide)
 have hb := BK.agg (u0.next (u1.next (BK.done)))
 refine ⟨⟨b0, b1⟩, ⟨k0, k1⟩, hb, v0.next (v1.next (VRC.done (n := 2) (hlen.trans hc)))⟩
end Go.Proofs.YtojlhapbngcjkaaGreatDoor

noncomputable section
namespace Go.Proofs.YtojlhapbngcjkaaGreatDoor
open Go Go.RowKit Go.ChangeShapes Go.WideShapes Go.ChangeAt Go.Deep Go.Joins
set_option maxRecDepth 100000
theorem opensB_ints {w : World} : OpensB Tryz.prog w 30 (List Int) fun l => l.length ≤ maxLen ∧ ∀ a ∈ l, In64 a := opensB_slice Tryz.underlying30 (opensB_int Tryz.underlying3) (by kernel_rfl) (by decide)
instance : Vol Sheet6 := ⟨fun p => 1 + (Vol.vol p.id + (Vol.vol p.grade + (Vol.vol p.thick + (Vol.vol p.long + (Vol.vol p.width + (Vol.vol p.heat + (0))))))), fun _ => Nat.le_add_right _ _⟩
def okSheet6 (p : Sheet6) : Prop := p.id.size ≤ maxLen ∧ p.grade.size ≤ maxLen ∧ In64 p.thick ∧ In64 p.long ∧ In64 p.width ∧ p.heat.size ≤ maxLen
theorem opensB_Sheet6 {w : World} : OpensB Tryz.prog w 386 Sheet6 okSheet6 := fun H enc base spare held fuel cs x h => by
 obtain ⟨xs, n, _, rfl, hlen, hxs, hf⟩ := DataW.trod_struct Tryz.underlying386 h
 have hc : Tryz.prog.cellsOf 386 = 6 := by kernel_rfl
 obtain ⟨b0, k0, u0, v0⟩ := fieldB (opensB_string Tryz.underlying9) (hf 0 _ rfl) (by rw [hxs]; decide)
 obtain ⟨b1, k1, u1, v1⟩ := fieldB (opensB_string Tryz.underlying9) (hf 1 _ rfl) (by rw [hxs]; decide)
 obtain ⟨b2, k2, u2, v2⟩ := fieldB (opensB_int Tryz.underlying3) (hf 2 _ rfl) (by rw [hxs]; decide)
 obtain ⟨b3, k3, u3, v3⟩ := fieldB (opensB_int Tryz.underlying3) (hf 3 _ rfl) (by rw [hxs]; decide)
 obtain ⟨b4, k4, u4, v4⟩ := fieldB (opensB_int Tryz.underlying3) (hf 4 _ rfl) (by rw [hxs]; decide)
 obtain ⟨b5, k5, u5, v5⟩ := fieldB (opensB_string Tryz.underlying9) (hf 5 _ rfl) (by rw [hxs]; decide)
 have hb := BK.agg (u0.next (u1.next (u2.next (u3.next (u4.next (u5.next (BK.done)))))))
 refine ⟨⟨b0, b1, b2, b3, b4, b5⟩, ⟨k0, k1, k2, k3, k4, k5⟩, hb, v0.next (v1.next (v2.next (v3.next (v4.next (v5.next (VRC.done (n := 6) (hlen.trans hc)))))))⟩
instance : Vol Bar5 := ⟨fun p => 1 + (Vol.vol p.id + (Vol.vol p.sect + (Vol.vol p.grade + (Vol.vol p.long + (Vol.vol p.heat + (0)))))), fun _ => Nat.le_add_right _ _⟩
def okBar5 (p : Bar5) : Prop := p.id.size ≤ maxLen ∧ p.sect.size ≤ maxLen ∧ p.grade.size ≤ maxLen ∧ In64 p.long ∧ p.heat.size ≤ maxLen
theorem opensB_Bar5 {w : World} : OpensB Tryz.prog w 388 Bar5 okBar5 := fun H enc base spare held fuel cs x h => by
 obtain ⟨xs, n, _, rfl, hlen, hxs, hf⟩ := DataW.trod_struct Tryz.underlying388 h
 have hc : Tryz.prog.cellsOf 388 = 5 := by kernel_rfl
 obtain ⟨b0, k0, u0, v0⟩ := fieldB (opensB_string Tryz.underlying9) (hf 0 _ rfl) (by rw [hxs]; decide)
 obtain ⟨b1, k1, u1, v1⟩ := fieldB (opensB_string Tryz.underlying9) (hf 1 _ rfl) (by rw [hxs]; decide)
 obtain ⟨b2, k2, u2, v2⟩ := fieldB (opensB_string Tryz.underlying9) (hf 2 _ rfl) (by rw [hxs]; decide)
 obtain ⟨b3, k3, u3, v3⟩ := fieldB (opensB_int Tryz.underlying3) (hf 3 _ rfl) (by rw [hxs]; decide)
 obtain ⟨b4, k4, u4, v4⟩ := fieldB (opensB_string Tryz.underlying9) (hf 4 _ rfl) (by rw [hxs]; decide)
 have hb := BK.agg (u0.next (u1.next (u2.next (u3.next (u4.next (BK.done))))))
 refine ⟨⟨b0, b1, b2, b3, b4⟩, ⟨k0, k1, k2, k3, k4⟩, hb, v0.next (v1.next (v2.next (v3.next (v4.next (VRC.done (n := 5) (hlen.trans hc))))))⟩
instance : Vol Hook4 := ⟨fun p => 1 + (Vol.vol p.crane + (Vol.vol p.at_ + (Vol.vol p.radius + (0)))), fun _ => Nat.le_add_right _ _⟩
def okHook4 (p : Hook4) : Prop := p.crane.size ≤ maxLen ∧ okPt p.at_ ∧ In64 p.radius
theorem opensB_Hook4 {w : World} : OpensB Tryz.prog w 394 Hook4 okHook4 := fun H enc base spare held fuel cs x h => by
 obtain ⟨xs, n, _, rfl, hlen, hxs, hf⟩ := DataW.trod_struct Tryz.underlying394 h
 have hc : Tryz.prog.cellsOf 394 = 4 := by kernel_rfl
 obtain ⟨b0, k0, u0, v0⟩ := fieldB (opensB_string Tryz.underlying9) (hf 0 _ rfl) (by rw [hxs]; decide)
 obtain ⟨b1, k1, u1, v1⟩ := fieldB opensB_Pt (hf 1 _ rfl) (by rw [hxs]; decide)
 obtain ⟨b2, k2, u2, v2⟩ := fieldB (opensB_int Tryz.underlying3) (hf 2 _ rfl) (by rw [hxs]; decide)
 have hb := BK.agg (u0.next (u1.next (u2.next (BK.done))))
 refine ⟨⟨b0, b1, b2⟩, ⟨k0, k1, k2⟩, hb, v0.next (v1.next (v2.next (VRC.done (n := 4) (hlen.trans hc))))⟩
instance : Vol Weig := ⟨fun p => 1 + (Vol.vol p.block + (Vol.vol p.at_ + (Vol.vol p.mass + (Vol.vol p.centre + (Vol.vol p.sigma + (Vol.vol p.parts + (0))))))), fun _ => Nat.le_add_right _ _⟩
def okWeig (p : Weig) : Prop := p.block.size ≤ maxLen ∧ In64 p.at_ ∧ In64 p.mass ∧ okVec3 p.centre ∧ In64 p.sigma ∧ (p.parts.length ≤ maxLen ∧ ∀ a ∈ p.parts, a.size ≤ maxLen)
theorem opensB_Weig {w : World} : OpensB Tryz.prog w 190 Weig okWeig := fun H enc base spare held fuel cs x h => by
 obtain ⟨xs, n, _, rfl, hlen, hxs, hf⟩ := DataW.trod_struct Tryz.underlying190 h
 have hc : Tryz.prog.cellsOf 190 = 8 := by kernel_rfl
 obtain ⟨b0, k0, u0, v0⟩ := fieldB (opensB_string Tryz.underlying9) (hf 0 _ rfl) (by rw [hxs]; decide)
 obtain ⟨b1, k1, u1, v1⟩ := fieldB (opensB_int Tryz.underlying3) (hf 1 _ rfl) (by rw [hxs]; decide)
 obtain ⟨b2, k2, u2, v2⟩ := fieldB (opensB_int Tryz.underlying3) (hf 2 _ rfl) (by rw [hxs]; decide)
 obtain ⟨b3, k3, u3, v3⟩ := fieldB opensB_Vec3 (hf 3 _ rfl) (by rw [hxs]; decide)
 obtain ⟨b4, k4, u4, v4⟩ := fieldB (opensB_int Tryz.underlying3) (hf 4 _ rfl) (by rw [hxs]; decide)
 obtain ⟨b5, k5, u5, v5⟩ := fieldB (opensB_slice Tryz.underlying46 (opensB_string Tryz.underlying9) (by kernel_rfl) (by decide)) (hf 5 _ rfl) (by rw [hxs]; decide)
 have hb := BK.agg (u0.next (u1.next (u2.next (u3.next (u4.next (u5.next (BK.done)))))))
 refine ⟨⟨b0, b1, b2, b3, b4, b5⟩, ⟨k0, k1, k2, k3, k4, k5⟩, hb, v0.next (v1.next (v2.next (v3.next (v4.next (v5.next (VRC.done (n := 8) (hlen.trans hc)))))))⟩
instance : Vol Span2 := ⟨fun p => 1 + (Vol.vol p.a + (Vol.vol p.b + (0))), fun _ => Nat.le_add_right _ _⟩
def okSpan2 (p : Span2) : Prop := In64 p.a ∧ In64 p.b
theorem opensB_Span2 {w : World} : OpensB Tryz.prog w 390 Span2 okSpan2 := fun H enc base spare held fuel cs x h => by
 obtain ⟨xs, n, _, rfl, hlen, hxs, hf⟩ := DataW.trod_struct Tryz.underlying390 h
 have hc : Tryz.prog.cellsOf 390 = 2 := by kernel_rfl
 obtain ⟨b0, k0, u0, v0⟩ := fieldB (opensB_int Tryz.underlying3) (hf 0 _ rfl) (by rw [hxs]; decide)
 obtain ⟨b1, k1, u1, v1⟩ := fieldB (opensB_int Tryz.underlying3) (hf 1 _ rfl) (by rw [hxs]; decide)
 have hb := BK.agg (u0.next (u1.next (BK.done)))
 refine ⟨⟨b0, b1⟩, ⟨k0, k1⟩, hb, v0.next (v1.next (VRC.done (n := 2) (hlen.trans hc)))⟩
instance : Vol Permit3 := ⟨fun p => 1 + (Vol.vol p.id + (Vol.vol p.kind + (Vol.vol p.time + (0)))), fun _ => Nat.le_add_right _ _⟩
def okPermit3 (p : Permit3) : Prop := p.id.size ≤ maxLen ∧ In64 p.kind ∧ okSpan2 p.time
theorem opensB_Permit3 {w : World} : OpensB Tryz.prog w 392 Permit3 okPermit3 := fun H enc base spare held fuel cs x h => by
 obtain ⟨xs, n, _, rfl, hlen, hxs, hf⟩ := DataW.trod_struct Tryz.underlying392 h
 have hc : Tryz.prog.cellsOf 392 = 4 := by kernel_rfl
 obtain ⟨b0, k0, u0, v0⟩ := fieldB (opensB_string Tryz.underlying9) (hf 0 _ rfl) (by rw [hxs]; decide)
 obtain ⟨b1, k1, u1, v1⟩ := fieldB (opensB_int Tryz.underlying3) (hf 1 _ rfl) (by rw [hxs]; decide)
 obtain ⟨b2, k2, u2, v2⟩ := fieldB opensB_Span2 (hf 2 _ rfl) (by rw [hxs]; decide)
 have hb := BK.agg (u0.next (u1.next (u2.next (BK.done))))
 refine ⟨⟨b0, b1, b2⟩, ⟨k0, k1, k2⟩, hb, v0.next (v1.next (v2.next (VRC.done (n := 4) (hlen.trans hc))))⟩
instance : Vol Bevel6 := ⟨fun p => 1 + (Vol.vol p.kind + (Vol.vol p.from_ + (Vol.vol p.until_ + (Vol.vol p.gap + (Vol.vol p.face + (Vol.vol p.run + (0))))))), fun _ => Nat.le_add_right _ _⟩
def okBevel6 (p : Bevel6) : Prop := In64 p.kind ∧ In64 p.from_ ∧ In64 p.until_ ∧ In64 p.gap ∧ In64 p.face ∧ In64 p.run
theorem opensB_Bevel6 {w : World} : OpensB Tryz.prog w 217 Bevel6 okBevel6 := fun H enc base spare held fuel cs x h => by
 obtain ⟨xs, n, _, rfl, hlen, hxs, hf⟩ := DataW.trod_struct Tryz.underlying217 h
 have hc : Tryz.prog.cellsOf 217 = 6 := by kernel_rfl
 obtain ⟨b0, k0, u0, v0⟩ := fieldB (opensB_int Tryz.underlying3) (hf 0 _ rfl) (by rw [hxs]; decide)
 obtain ⟨b1, k1, u1, v1⟩ := fieldB (opensB_int Tryz.underlying3) (hf 1 _ rfl) (by rw [hxs]; decide)
 obtain ⟨b2, k2, u2, v2⟩ := fieldB (opensB_int Tryz.underlying3) (hf 2 _ rfl) (by rw [hxs]; decide)
 obtain ⟨b3, k3, u3, v3⟩ := fieldB (opensB_int Tryz.underlying3) (hf 3 _ rfl) (by rw [hxs]; decide)
 obtain ⟨b4, k4, u4, v4⟩ := fieldB (opensB_int Tryz.underlying3) (hf 4 _ rfl) (by rw [hxs]; decide)
 obtain ⟨b5, k5, u5, v5⟩ := fieldB (opensB_int Tryz.underlying3) (hf 5 _ rfl) (by rw [hxs]; decide)
 have hb := BK.agg (u0.next (u1.next (u2.next (u3.next (u4.next (u5.next (BK.done)))))))
 refine ⟨⟨b0, b1, b2, b3, b4, b5⟩, ⟨k0, k1, k2, k3, k4, k5⟩, hb, v0.next (v1.next (v2.next (v3.next (v4.next (v5.next (VRC.done (n := 6) (hlen.trans hc)))))))⟩
instance : Vol Proc6 := ⟨fun p => 1 + (Vol.vol p.name + (Vol.vol p.kind + (Vol.vol p.from_ + (Vol.vol p.until_ + (Vol.vol p.grades + (Vol.vol p.speed + (0))))))), fun _ => Nat.le_add_right _ _⟩
def okProc6 (p : Proc6) : Prop := p.name.size ≤ maxLen ∧ In64 p.kind ∧ In64 p.from_ ∧ In64 p.until_ ∧ (p.grades.length ≤ maxLen ∧ ∀ a ∈ p.grades, a.size ≤ maxLen) ∧ In64 p.speed
theorem opensB_Proc6 {w : World} : OpensB Tryz.prog w 221 Proc6 okProc6 := fun H enc base spare held fuel cs x h => by
 obtain ⟨xs, n, _, rfl, hlen, hxs, hf⟩ := DataW.trod_struct Tryz.underlying221 h
 have hc : Tryz.prog.cellsOf 221 = 6 := by kernel_rfl
 obtain ⟨b0, k0, u0, v0⟩ := fieldB (opensB_string Tryz.underlying9) (hf 0 _ rfl) (by rw [hxs]; decide)
 obtain ⟨b1, k1, u1, v1⟩ := fieldB (opensB_int Tryz.underlying3) (hf 1 _ rfl) (by rw [hxs]; decide)
 obtain ⟨b2, k2, u2, v2⟩ := fieldB (opensB_int Tryz.underlying3) (hf 2 _ rfl) (by rw [hxs]; decide)
 obtain ⟨b3, k3, u3, v3⟩ := fieldB (opensB_int Tryz.underlying3) (hf 3 _ rfl) (by rw [hxs]; decide)
 obtain ⟨b4, k4, u4, v4⟩ := fieldB (opensB_slice Tryz.underlying46 (opensB_string Tryz.underlying9) (by kernel_rfl) (by decide)) (hf 4 _ rfl) (by rw [hxs]; decide)
 obtain ⟨b5, k5, u5, v5⟩ := fieldB (opensB_int Tryz.underlying3) (hf 5 _ rfl) (by rw [hxs]; decide)
 have hb := BK.agg (u0.next (u1.next (u2.next (u3.next (u4.next (u5.next (BK.done)))))))
 refine ⟨⟨b0, b1, b2, b3, b4, b5⟩, ⟨k0, k1, k2, k3, k4, k5⟩, hb, v0.next (v1.next (v2.next (v3.next (v4.next (v5.next (VRC.done (n := 6) (hlen.trans hc)))))))⟩
instance : Vol Skill3 := ⟨fun p => 1 + (Vol.vol p.proc + (Vol.vol p.from_ + (Vol.vol p.until_ + (0)))), fun _ => Nat.le_add_right _ _⟩
def okSkill3 (p : Skill3) : Prop := p.proc.size ≤ maxLen ∧ In64 p.from_ ∧ In64 p.until_
theorem opensB_Skill3 {w : World} : OpensB Tryz.prog w 292 Skill3 okSkill3 := fun H enc base spare held fuel cs x h => by
 obtain ⟨xs, n, _, rfl, hlen, hxs, hf⟩ := DataW.trod_struct Tryz.underlying292 h
 have hc : Tryz.prog.cellsOf 292 = 3 := by kernel_rfl
 obtain ⟨b0, k0, u0, v0⟩ := fieldB (opensB_string Tryz.underlying9) (hf 0 _ rfl) (by rw [hxs]; decide)
 obtain ⟨b1, k1, u1, v1⟩ := fieldB (opensB_int Tryz.underlying3) (hf 1 _ rfl) (by rw [hxs]; decide)
 obtain ⟨b2, k2, u2, v2⟩ := fieldB (opensB_int Tryz.underlying3) (hf 2 _ rfl) (by rw [hxs]; decide)
 have hb := BK.agg (u0.next (u1.next (u2.next (BK.done))))
 refine ⟨⟨b0, b1, b2⟩, ⟨k0, k1, k2⟩, hb, v0.next (v1.next (v2.next (VRC.done (n := 3) (hlen.trans hc))))⟩
instance : Vol Welder2 := ⟨fun p => 1 + (Vol.vol p.name + (Vol.vol p.skills + (0))), fun _ => Nat.le_add_right _ _⟩
def okWelder2 (p : Welder2) : Prop := p.name.size ≤ maxLen ∧ (p.skills.length ≤ maxLen ∧ ∀ a ∈ p.skills, okSkill3 a)
theorem opensB_Welder2 {w : World} : OpensB Tryz.prog w 225 Welder2 okWelder2 := fun H enc base spare held fuel cs x h => by
 obtain ⟨xs, n, _, rfl, hlen, hxs, hf⟩ := DataW.trod_struct Tryz.underlying225 h
 have hc : Tryz.prog.cellsOf 225 = 2 := by kernel_rfl
 obtain ⟨b0, k0, u0, v0⟩ := fieldB (opensB_string Tryz.underlying9) (hf 0 _ rfl) (by rw [hxs]; decide)
 obtain ⟨b1, k1, u1, v1⟩ := fieldB (opensB_slice Tryz.underlying223 opensB_Skill3 (by kernel_rfl) (by decide)) (hf 1 _ rfl) (by rw [hxs]; decide)
 have hb := BK.agg (u0.next (u1.next (BK.done)))
 refine ⟨⟨b0, b1⟩, ⟨k0, k1⟩, hb, v0.next (v1.next (VRC.done (n := 2) (hlen.trans hc)))⟩
instance : Vol Rating2 := ⟨fun p => 1 + (Vol.vol p.radius + (Vol.vol p.load + (0))), fun _ => Nat.le_add_right _ _⟩
def okRating2 (p : Rating2) : Prop := In64 p.radius ∧ In64 p.load
theorem opensB_Rating2 {w : World} : OpensB Tryz.prog w 294 Rating2 okRating2 := fun H enc base spare held fuel cs x h => by
 obtain ⟨xs, n, _, rfl, hlen, hxs, hf⟩ := DataW.trod_struct Tryz.underlying294 h
 have hc : Tryz.prog.cellsOf 294 = 2 := by kernel_rfl
 obtain ⟨b0, k0, u0, v0⟩ := fieldB (opensB_int Tryz.underlying3) (hf 0 _ rfl) (by rw [hxs]; decide)
 obtain ⟨b1, k1, u1, v1⟩ := fieldB (opensB_int Tryz.underlying3) (hf 1 _ rfl) (by rw [hxs]; decide)
 have hb := BK.agg (u0.next (u1.next (BK.done)))
 refine ⟨⟨b0, b1⟩, ⟨k0, k1⟩, hb, v0.next (v1.next (VRC.done (n := 2) (hlen.trans hc)))⟩
instance : Vol Crane2 := ⟨fun p => 1 + (Vol.vol p.name + (Vol.vol p.chart + (0))), fun _ => Nat.le_add_right _ _⟩
def okCrane2 (p : Crane2) : Prop := p.name.size ≤ maxLen ∧ (p.chart.length ≤ maxLen ∧ ∀ a ∈ p.chart, okRating2 a)
theorem opensB_Crane2 {w : World} : OpensB Tryz.prog w 229 Crane2 okCrane2 := fun H enc base spare held fuel cs x h => by
 obtain ⟨xs, n, _, rfl, hlen, hxs, hf⟩ := DataW.trod_struct Tryz.underlying229 h
 have hc : Tryz.prog.cellsOf 229 = 2 := by kernel_rfl
 obtain ⟨b0, k0, u0, v0⟩ := fieldB (opensB_string Tryz.underlying9) (hf 0 _ rfl) (by rw [hxs]; decide)
 obtain ⟨b1, k1, u1, v1⟩ := fieldB (opensB_slice Tryz.underlying227 opensB_Rating2 (by kernel_rfl) (by decide)) (hf 1 _ rfl) (by rw [hxs]; decide)
 have hb := BK.agg (u0.next (u1.next (BK.done)))
 refine ⟨⟨b0, b1⟩, ⟨k0, k1⟩, hb, v0.next (v1.next (VRC.done (n := 2) (hlen.trans hc)))⟩
instance : Vol Form3 := ⟨fun p => 1 + (Vol.vol p.x + (Vol.vol p.z + (Vol.vol p.half + (0)))), fun _ => Nat.le_add_right _ _⟩
def okForm3 (p : Form3) : Prop := (p.x.length ≤ maxLen ∧ ∀ a ∈ p.x, In64 a) ∧ (p.z.length ≤ maxLen ∧ ∀ a ∈ p.z, In64 a) ∧ (p.half.length ≤ maxLen ∧ ∀ a ∈ p.half, (a.length ≤ maxLen ∧ ∀ b ∈ a, In64 b))
theorem opensB_Form3 {w : World} : OpensB Tryz.prog w 33 Form3 okForm3 := fun H enc base spare held fuel cs x h => by
 obtain ⟨xs, n, _, rfl, hlen, hxs, hf⟩ := DataW.trod_struct Tryz.underlying33 h
 have hc : Tryz.prog.cellsOf 33 = 3 := by kernel_rfl
 obtain ⟨b0, k0, u0, v0⟩ := fieldB (opensB_slice Tryz.underlying30 (opensB_int Tryz.underlying3) (by kernel_rfl) (by decide)) (hf 0 _ rfl) (by rw [hxs]; decide)
 obtain ⟨b1, k1, u1, v1⟩ := fieldB (opensB_slice Tryz.underlying30 (opensB_int Tryz.underlying3) (by kernel_rfl) (by decide)) (hf 1 _ rfl) (by rw [hxs]; decide)
 obtain ⟨b2, k2, u2, v2⟩ := fieldB (opensB_slice Tryz.underlying31 opensB_ints (by kernel_rfl) (by decide)) (hf 2 _ rfl) (by rw [hxs]; decide)
 have hb := BK.agg (u0.next (u1.next (u2.next (BK.done))))
 refine ⟨⟨b0, b1, b2⟩, ⟨k0, k1, k2⟩, hb, v0.next (v1.next (v2.next (VRC.done (n := 3) (hlen.trans hc))))⟩
instance : Vol Lim3 := ⟨fun p => 1 + (Vol.vol p.depth + (Vol.vol p.height + (Vol.vol p.trim + (0)))), fun _ => Nat.le_add_right _ _⟩
def okLim3 (p : Lim3) : Prop := In64 p.depth ∧ In64 p.height ∧ In64 p.trim
theorem opensB_Lim3 {w : World} : OpensB Tryz.prog w 35 Lim3 okLim3 := fun H enc base spare held fuel cs x h => by
 obtain ⟨xs, n, _, rfl, hlen, hxs, hf⟩ := DataW.trod_struct Tryz.underlying35 h
 have hc : Tryz.prog.cellsOf 35 = 3 := by kernel_rfl
 obtain ⟨b0, k0, u0, v0⟩ := fieldB (opensB_int Tryz.underlying3) (hf 0 _ rfl) (by rw [hxs]; decide)
 obtain ⟨b1, k1, u1, v1⟩ := fieldB (opensB_int Tryz.underlying3) (hf 1 _ rfl) (by rw [hxs]; decide)
 obtain ⟨b2, k2, u2, v2⟩ := fieldB (opensB_int Tryz.underlying3) (hf 2 _ rfl) (by rw [hxs]; decide)
 have hb := BK.agg (u0.next (u1.next (u2.next (BK.done))))
 refine ⟨⟨b0, b1, b2⟩, ⟨k0, k1, k2⟩, hb, v0.next (v1.next (v2.next (VRC.done (n := 3) (hlen.trans hc))))⟩
instance : Vol Stock2 := ⟨fun p => 1 + (Vol.vol p.sheets + (Vol.vol p.bars + (0))), fun _ => Nat.le_add_right _ _⟩
def okStock2 (p : Stock2) : Prop := (p.sheets.length ≤ maxLen ∧ ∀ a ∈ p.sheets, okSheet6 a) ∧ (p.bars.length ≤ maxLen ∧ ∀ a ∈ p.bars, okBar5 a)
theorem opensB_Stock2 {w : World} : OpensB Tryz.prog w 50 Stock2 okStock2 := fun H enc base spare held fuel cs x h => by
 obtain ⟨xs, n, _, rfl, hlen, hxs, hf⟩ := DataW.trod_struct Tryz.underlying50 h
 have hc : Tryz.prog.cellsOf 50 = 2 := by kernel_rfl
 obtain ⟨b0, k0, u0, v0⟩ := fieldB (opensB_slice Tryz.underlying47 opensB_Sheet6 (by kernel_rfl) (by decide)) (hf 0 _ rfl) (by rw [hxs]; decide)
 obtain ⟨b1, k1, u1, v1⟩ := fieldB (opensB_slice Tryz.underlying48 opensB_Bar5 (by kernel_rfl) (by decide)) (hf 1 _ rfl) (by rw [hxs]; decide)
 have hb := BK.agg (u0.next (u1.next (BK.done)))
 refine ⟨⟨b0, b1⟩, ⟨k0, k1⟩, hb, v0.next (v1.next (VRC.done (n := 2) (hlen.trans hc)))⟩
instance : Vol Piece6 := ⟨fun p => 1 + (Vol.vol p.part + (Vol.vol p.rev + (Vol.vol p.from_ + (Vol.vol p.heat + (Vol.vol p.state + (Vol.vol p.at_ + (0))))))), fun _ => Nat.le_add_right _ _⟩
def okPiece6 (p : Piece6) : Prop := p.part.size ≤ maxLen ∧ In64 p.rev ∧ p.from_.size ≤ maxLen ∧ p.heat.size ≤ maxLen ∧ In64 p.state ∧ In64 p.at_
theorem opensB_Piece6 {w : World} : OpensB Tryz.prog w 94 Piece6 okPiece6 := fun H enc base spare held fuel cs x h => by
 obtain ⟨xs, n, _, rfl, hlen, hxs, hf⟩ := DataW.trod_struct Tryz.underlying94 h
 have hc : Tryz.prog.cellsOf 94 = 6 := by kernel_rfl
 obtain ⟨b0, k0, u0, v0⟩ := fieldB (opensB_string Tryz.underlying9) (hf 0 _ rfl) (by rw [hxs]; decide)
 obtain ⟨b1, k1, u1, v1⟩ := fieldB (opensB_int Tryz.underlying3) (hf 1 _ rfl) (by rw [hxs]; decide)
 obtain ⟨b2, k2, u2, v2⟩ := fieldB (opensB_string Tryz.underlying9) (hf 2 _ rfl) (by rw [hxs]; decide)
 obtain ⟨b3, k3, u3, v3⟩ := fieldB (opensB_string Tryz.underlying9) (hf 3 _ rfl) (by rw [hxs]; decide)
 obtain ⟨b4, k4, u4, v4⟩ := fieldB (opensB_int Tryz.underlying3) (hf 4 _ rfl) (by rw [hxs]; decide)
 obtain ⟨b5, k5, u5, v5⟩ := fieldB (opensB_int Tryz.underlying3) (hf 5 _ rfl) (by rw [hxs]; decide)
 have hb := BK.agg (u0.next (u1.next (u2.next (u3.next (u4.next (u5.next (BK.done)))))))
 refine ⟨⟨b0, b1, b2, b3, b4, b5⟩, ⟨k0, k1, k2, k3, k4, k5⟩, hb, v0.next (v1.next (v2.next (v3.next (v4.next (v5.next (VRC.done (n := 6) (hlen.trans hc)))))))⟩
instance : Vol Weld8 := ⟨fun p => 1 + (Vol.vol p.seam + (Vol.vol p.state + (Vol.vol p.cls + (Vol.vol p.proc + (Vol.vol p.by_ + (Vol.vol p.at_ + (Vol.vol p.repairs + (Vol.vol p.passed + (0))))))))), fun _ => Nat.le_add_right _ _⟩
def okWeld8 (p : Weld8) : Prop := p.seam.size ≤ maxLen ∧ In64 p.state ∧ In64 p.cls ∧ p.proc.size ≤ maxLen ∧ p.by_.size ≤ maxLen ∧ In64 p.at_ ∧ In64 p.repairs ∧ (p.passed.length ≤ maxLen ∧ ∀ a ∈ p.passed, In64 a)
theorem opensB_Weld8 {w : World} : OpensB Tryz.prog w 69 Weld8 okWeld8 := fun H enc base spare held fuel cs x h => by
 obtain ⟨xs, n, _, rfl, hlen, hxs, hf⟩ := DataW.trod_struct Tryz.underlying69 h
 have hc : Tryz.prog.cellsOf 69 = 8 := by kernel_rfl
 obtain ⟨b0, k0, u0, v0⟩ := fieldB (opensB_string Tryz.underlying9) (hf 0 _ rfl) (by rw [hxs]; decide)
 obtain ⟨b1, k1, u1, v1⟩ := fieldB (opensB_int Tryz.underlying3) (hf 1 _ rfl) (by rw [hxs]; decide)
 obtain ⟨b2, k2, u2, v2⟩ := fieldB (opensB_int Tryz.underlying3) (hf 2 _ rfl) (by rw [hxs]; decide)
 obtain ⟨b3, k3, u3, v3⟩ := fieldB (opensB_string Tryz.underlying9) (hf 3 _ rfl) (by rw [hxs]; decide)
 obtain ⟨b4, k4, u4, v4⟩ := fieldB (opensB_string Tryz.underlying9) (hf 4 _ rfl) (by rw [hxs]; decide)
 obtain ⟨b5, k5, u5, v5⟩ := fieldB (opensB_int Tryz.underlying3) (hf 5 _ rfl) (by rw [hxs]; decide)
 obtain ⟨b6, k6, u6, v6⟩ := fieldB (opensB_int Tryz.underlying3) (hf 6 _ rfl) (by rw [hxs]; decide)
 obtain ⟨b7, k7, u7, v7⟩ := fieldB (opensB_slice Tryz.underlying30 (opensB_int Tryz.underlying3) (by kernel_rfl) (by decide)) (hf 7 _ rfl) (by rw [hxs]; decide)
 have hb := BK.agg (u0.next (u1.next (u2.next (u3.next (u4.next (u5.next (u6.next (u7.next (BK.done)))))))))
 refine ⟨⟨b0, b1, b2, b3, b4, b5, b6, b7⟩, ⟨k0, k1, k2, k3, k4, k5, k6, k7⟩, hb, v0.next (v1.next (v2.next (v3.next (v4.next (v5.next (v6.next (v7.next (VRC.done (n := 8) (hlen.trans hc)))))))))⟩
instance : Vol Raised3 := ⟨fun p => 1 + (Vol.vol p.block + (Vol.vol p.at_ + (Vol.vol p.hooks + (0)))), fun _ => Nat.le_add_right _ _⟩
def okRaised3 (p : Raised3) : Prop := p.block.size ≤ maxLen ∧ In64 p.at_ ∧ (p.hooks.length ≤ maxLen ∧ ∀ a ∈ p.hooks, okHook4 a)
theorem opensB_Raised3 {w : World} : OpensB Tryz.prog w 111 Raised3 okRaised3 := fun H enc base spare held fuel cs x h => by
 obtain ⟨xs, n, _, rfl, hlen, hxs, hf⟩ := DataW.trod_struct Tryz.underlying111 h
 have hc : Tryz.prog.cellsOf 111 = 3 := by kernel_rfl
 obtain ⟨b0, k0, u0, v0⟩ := fieldB (opensB_string Tryz.underlying9) (hf 0 _ rfl) (by rw [hxs]; decide)
 obtain ⟨b1, k1, u1, v1⟩ := fieldB (opensB_int Tryz.underlying3) (hf 1 _ rfl) (by rw [hxs]; decide)
 obtain ⟨b2, k2, u2, v2⟩ := fieldB (opensB_slice Tryz.underlying109 opensB_Hook4 (by kernel_rfl) (by decide)) (hf 2 _ rfl) (by rw [hxs]; decide)
 have hb := BK.agg (u0.next (u1.next (u2.next (BK.done))))
 refine ⟨⟨b0, b1, b2⟩, ⟨k0, k1, k2⟩, hb, v0.next (v1.next (v2.next (VRC.done (n := 3) (hlen.trans hc))))⟩
instance : Vol Test3 := ⟨fun p => 1 + (Vol.vol p.id + (Vol.vol p.after + (Vol.vol p.done + (0)))), fun _ => Nat.le_add_right _ _⟩
def okTest3 (p : Test3) : Prop := p.id.size ≤ maxLen ∧ (p.after.length ≤ maxLen ∧ ∀ a ∈ p.after, a.size ≤ maxLen) ∧ True
theorem opensB_Test3 {w : World} : OpensB Tryz.prog w 117 Test3 okTest3 := fun H enc base spare held fuel cs x h => by
 obtain ⟨xs, n, _, rfl, hlen, hxs, hf⟩ := DataW.trod_struct Tryz.underlying117 h
 have hc : Tryz.prog.cellsOf 117 = 3 := by kernel_rfl
 obtain ⟨b0, k0, u0, v0⟩ := fieldB (opensB_string Tryz.underlying9) (hf 0 _ rfl) (by rw [hxs]; decide)
 obtain ⟨b1, k1, u1, v1⟩ := fieldB (opensB_slice Tryz.underlying46 (opensB_string Tryz.underlying9) (by kernel_rfl) (by decide)) (hf 1 _ rfl) (by rw [hxs]; decide)
 obtain ⟨b2, k2, u2, v2⟩ := fieldB (opensB_bool Tryz.underlying4) (hf 2 _ rfl) (by rw [hxs]; decide)
 have hb := BK.agg (u0.next (u1.next (u2.next (BK.done))))
 refine ⟨⟨b0, b1, b2⟩, ⟨k0, k1, k2⟩, hb, v0.next (v1.next (v2.next (VRC.done (n := 3) (hlen.trans hc))))⟩
instance : Vol SetupD := ⟨fun p => 1 + (Vol.vol p.mats + (Vol.vol p.bevels + (Vol.vol p.procs + (Vol.vol p.welders + (Vol.vol p.cranes + (Vol.vol p.form + (Vol.vol p.water + (Vol.vol p.limits + (Vol.vol p.tests + (Vol.vol p.design + (0))))))))))), fun _ => Nat.le_add_right _ _⟩
def okSetupD (p : SetupD) : Prop := okMats p.mats ∧ (p.bevels.length ≤ maxLen ∧ ∀ a ∈ p.bevels, okBevel6 a) ∧ (p.procs.length ≤ maxLen ∧ ∀ a ∈ p.procs, okProc6 a) ∧ (p.welders.length ≤ maxLen ∧ ∀ a ∈ p.welders, okWelder2 a) ∧ (p.cranes.length ≤ maxLen ∧ ∀ a ∈ p.cranes, okCrane2 a) ∧ okForm3 p.form ∧ In64 p.water ∧ okLim3 p.limits ∧ (p.tests.length ≤ maxLen ∧ ∀ a ∈ p.tests, okTest3 a) ∧ okDesign6 p.design
set_option maxHeartbeats 4000000 in
theorem opensB_SetupD {w : World} : OpensB Tryz.prog w 45 SetupD okSetupD := fun H enc base spare held fuel cs x h => by
 obtain ⟨xs, n, _, rfl, hlen, hxs, hf⟩ := DataW.trod_struct Tryz.underlying45 h
 have hc : Tryz.prog.cellsOf 45 = 20 := by kernel_rfl
 obtain ⟨b0, k0, u0, v0⟩ := fieldB opensB_Mats (hf 0 _ rfl) (by rw [hxs]; decide)
 obtain ⟨b1, k1, u1, v1⟩ := fieldB (opensB_slice Tryz.underlying26 opensB_Bevel6 (by kernel_rfl) (by decide)) (hf 1 _ rfl) (by rw [hxs]; decide)
 obtain ⟨b2, k2, u2, v2⟩ := fieldB (opensB_slice Tryz.underlying27 opensB_Proc6 (by kernel_rfl) (by decide)) (hf 2 _ rfl) (by rw [hxs]; decide)
 obtain ⟨b3, k3, u3, v3⟩ := fieldB (opensB_slice Tryz.underlying28 opensB_Welder2 (by kernel_rfl) (by decide)) (hf 3 _ rfl) (by rw [hxs]; decide)
 obtain ⟨b4, k4, u4, v4⟩ := fieldB (opensB_slice Tryz.underlying29 opensB_Crane2 (by kernel_rfl) (by decide)) (hf 4 _ rfl) (by rw [hxs]; decide)
 obtain ⟨b5, k5, u5, v5⟩ := fieldB opensB_Form3 (hf 5 _ rfl) (by rw [hxs]; decide)
 obtain ⟨b6, k6, u6, v6⟩ := fieldB (opensB_int Tryz.underlying3) (hf 6 _ rfl) (by rw [hxs]; decide)
 obtain ⟨b7, k7, u7, v7⟩ := fieldB opensB_Lim3 (hf 7 _ rfl) (by rw [hxs]; decide)
 obtain ⟨b8, k8, u8, v8⟩ := fieldB (opensB_slice Tryz.underlying36 opensB_Test3 (by kernel_rfl) (by decide)) (hf 8 _ rfl) (by rw [hxs]; decide)
 obtain ⟨b9, k9, u9, v9⟩ := fieldB opensB_Design6 (hf 9 _ rfl) (by rw [hxs]; decide)
 have hb := BK.agg (u0.next (u1.next (u2.next (u3.next (u4.next (u5.next (u6.next (u7.next (u8.next (u9.next (BK.done)))))))))))
 refine ⟨⟨b0, b1, b2, b3, b4, b5, b6, b7, b8, b9⟩, ⟨k0, k1, k2, k3, k4, k5, k6, k7, k8, k9⟩, hb, v0.next (v1.next (v2.next (v3.next (v4.next (v5.next (v6.next (v7.next (v8.next (v9.next (VRC.done (n := 20) (hlen.trans hc)))))))))))⟩
instance : Vol StateD := ⟨fun p => 1 + (Vol.vol p.now + (Vol.vol p.design + (Vol.vol p.orders + (Vol.vol p.stock + (Vol.vol p.pieces + (Vol.vol p.scrap + (Vol.vol p.welds + (Vol.vol p.done + (Vol.vol p.weighs + (Vol.vol p.raised + (Vol.vol p.permits + (Vol.vol p.tests + (Vol.vol p.launched + (Vol.vol p.delivered + (0))))))))))))))), fun _ => Nat.le_add_right _ _⟩
def okStateD (p : StateD) : Prop := In64 p.now ∧ okDesign6 p.design ∧ (p.orders.length ≤ maxLen ∧ ∀ a ∈ p.orders, a.size ≤ maxLen) ∧ okStock2 p.stock ∧ (p.pieces.length ≤ maxLen ∧ ∀ a ∈ p.pieces, okPiece6 a) ∧ (p.scrap.length ≤ maxLen ∧ ∀ a ∈ p.scrap, okPiece6 a) ∧ (p.welds.length ≤ maxLen ∧ ∀ a ∈ p.welds, okWeld8 a) ∧ (p.done.length ≤ maxLen ∧ ∀ a ∈ p.done, a.size ≤ maxLen) ∧ (p.weighs.length ≤ maxLen ∧ ∀ a ∈ p.weighs, okWeig a) ∧ (p.raised.length ≤ maxLen ∧ ∀ a ∈ p.raised, okRaised3 a) ∧ (p.permits.length ≤ maxLen ∧ ∀ a ∈ p.permits, okPermit3 a) ∧ (p.tests.length ≤ maxLen ∧ ∀ a ∈ p.tests, okTest3 a) ∧ In64 p.launched ∧ In64 p.delivered
set_option maxHeartbeats 4000000 in
theorem opensB_StateD {w : World} : OpensB Tryz.prog w 57 StateD okStateD := fun H enc base spare held fuel cs x h => by
 obtain ⟨xs, n, _, rfl, hlen, hxs, hf⟩ := DataW.trod_struct Tryz.underlying57 h
 have hc : Tryz.prog.cellsOf 57 = 20 := by kernel_rfl
 obtain ⟨b0, k0, u0, v0⟩ := fieldB (opensB_int Tryz.underlying3) (hf 0 _ rfl) (by rw [hxs]; decide)
 obtain ⟨b1, k1, u1, v1⟩ := fieldB opensB_Design6 (hf 1 _ rfl) (by rw [hxs]; decide)
 obtain ⟨b2, k2, u2, v2⟩ := fieldB (opensB_slice Tryz.underlying46 (opensB_string Tryz.underlying9) (by kernel_rfl) (by decide)) (hf 2 _ rfl) (by rw [hxs]; decide)
 obtain ⟨b3, k3, u3, v3⟩ := fieldB opensB_Stock2 (hf 3 _ rfl) (by rw [hxs]; decide)
 obtain ⟨b4, k4, u4, v4⟩ := fieldB (opensB_slice Tryz.underlying51 opensB_Piece6 (by kernel_rfl) (by decide)) (hf 4 _ rfl) (by rw [hxs]; decide)
 obtain ⟨b5, k5, u5, v5⟩ := fieldB (opensB_slice Tryz.underlying51 opensB_Piece6 (by kernel_rfl) (by decide)) (hf 5 _ rfl) (by rw [hxs]; decide)
 obtain ⟨b6, k6, u6, v6⟩ := fieldB (opensB_slice Tryz.underlying52 opensB_Weld8 (by kernel_rfl) (by decide)) (hf 6 _ rfl) (by rw [hxs]; decide)
 obtain ⟨b7, k7, u7, v7⟩ := fieldB (opensB_slice Tryz.underlying46 (opensB_string Tryz.underlying9) (by kernel_rfl) (by decide)) (hf 7 _ rfl) (by rw [hxs]; decide)
 obtain ⟨b8, k8, u8, v8⟩ := fieldB (opensB_slice Tryz.underlying53 opensB_Weig (by kernel_rfl) (by decide)) (hf 8 _ rfl) (by rw [hxs]; decide)
 obtain ⟨b9, k9, u9, v9⟩ := fieldB (opensB_slice Tryz.underlying54 opensB_Raised3 (by kernel_rfl) (by decide)) (hf 9 _ rfl) (by rw [hxs]; decide)
 obtain ⟨b10, k10, u10, v10⟩ := fieldB (opensB_slice Tryz.underlying55 opensB_Permit3 (by kernel_rfl) (by decide)) (hf 10 _ rfl) (by rw [hxs]; decide)
 obtain ⟨b11, k11, u11, v11⟩ := fieldB (opensB_slice Tryz.underlying36 opensB_Test3 (by kernel_rfl) (by decide)) (hf 11 _ rfl) (by rw [hxs]; decide)
 obtain ⟨b12, k12, u12, v12⟩ := fieldB (opensB_int Tryz.underlying3) (hf 12 _ rfl) (by rw [hxs]; decide)
 obtain ⟨b13, k13, u13, v13⟩ := fieldB (opensB_int Tryz.underlying3) (hf 13 _ rfl) (by rw [hxs]; decide)
 have hb := BK.agg (u0.next (u1.next (u2.next (u3.next (u4.next (u5.next (u6.next (u7.next (u8.next (u9.next (u10.next (u11.next (u12.next (u13.next (BK.done)))))))))))))))
 refine ⟨⟨b0, b1, b2, b3, b4, b5, b6, b7, b8, b9, b10, b11, b12, b13⟩, ⟨k0, k1, k2, k3, k4, k5, k6, k7, k8, k9, k10, k11, k12, k13⟩, hb, v0.next (v1.next (v2.next (v3.next (v4.next (v5.next (v6.next (v7.next (v8.next (v9.next (v10.next (v11.next (v12.next (v13.next (VRC.done (n := 20) (hlen.trans hc)))))))))))))))⟩
end Go.Proofs.YtojlhapbngcjkaaGreatDoor

noncomputable section
namespace Go.Proofs.YtojlhapbngcjkaaGreatDoor
open Go Go.RowKit
set_option maxRecDepth 100000
set_option maxHeartbeats 8000000
theorem volMem {α : Type} [Vol α] {l : List α} {a : α} (h : a ∈ l) : Vol.vol a < Vol.vol l := by
 show _ < 1 + (l.map Vol.vol).sum
 induction l with
 | nil => cases h
 | cons b l ih =>
  rw [List.map_cons, List.sum_cons]
  rcases List.mem_cons.1 h with rfl | h'
  ·omega
  ·have := ih h'
   omega
theorem volLen {α : Type} [Vol α] (l : List α) {n : Nat} (h : Vol.vol l ≤ n) : l.length ≤ n := by
 have := vol_len l
 omega
theorem volSize (s : ByteArray) {n : Nat} (h : Vol.vol s ≤ n) : s.size ≤ n := by
 have e : Vol.vol s = 1 + s.size := rfl
 omega
theorem bulk_state {s : StateD} (o : okStateD s) (h : Vol.vol s ≤ 1048576) : FitS s := by
 have e : Vol.vol s = 1 + (Vol.vol s.now + (Vol.vol s.design + (Vol.vol s.orders + (Vol.vol s.stock + (Vol.vol s.pieces + (Vol.vol s.scrap + (Vol.vol s.welds + (Vol.vol s.done + (Vol.vol s.weighs + (Vol.vol s.raised + (Vol.vol s.permits + (Vol.vol s.tests + (Vol.vol s.launched + (Vol.vol s.delivered + (0))))))))))))))) := rfl
 have ed : Vol.vol s.design = 1 + (Vol.vol s.design.hull + (Vol.vol s.design.nodes + (Vol.vol s.design.parts + (Vol.vol s.design.seams + (Vol.vol s.design.packs + (Vol.vol s.design.needs + (0))))))) := rfl
 obtain ⟨o_now, o_design, o_orders, o_stock, o_pieces, o_scrap, o_welds, o_done, o_weighs, o_raised, o_permits, o_tests, o_launched, o_delivered⟩ := o
 obtain ⟨d_hull, d_nodes, d_parts, d_seams, d_packs, d_needs⟩ := o_design
 have bn : Vol.vol s.design.nodes ≤ 1048576 := by omega
 have bp : Vol.vol s.design.parts ≤ 1048576 := by omega
 have bs : Vol.vol s.design.seams ≤ 1048576 := by omega
 have bk : Vol.vol s.design.packs ≤ 1048576 := by omega
 have bi : Vol.vol s.pieces ≤ 1048576 := by omega
 have bw : Vol.vol s.welds ≤ 1048576 := by omega
 have bt : Vol.vol s.tests ≤ 1048576 := by omega
 refine ⟨volSize _ (by omega), ⟨volLen _ (by omega), fun x hx => ?_⟩, ⟨volLen _ (by omega), fun x hx => ?_⟩, ⟨volLen _ (by omega), fun x hx => ?_⟩, ⟨volLen _ (by omega), fun x hx => ?_⟩, ⟨volLen _ (by omega), fun x hx => ?_⟩, ⟨volLen _ (by omega), fun x hx => ?_⟩, volLen _ (by omega), volLen _ (by omega), ⟨volLen _ (by omega), fun x hx => ?_⟩⟩
 ·have h1 := volMem hx
  have e1 : Vol.vol x = 1 + (Vol.vol x.id + (Vol.vol x.kind + (Vol.vol x.parent + (0)))) := rfl
  have ok := d_nodes.2 x hx
  clear e ed
  exact volSize x.id (by omega)
 ·have h1 := volMem hx
  have e1 : Vol.vol x = 1 + (Vol.vol x.id + (Vol.vol x.rev + (Vol.vol x.kind + (Vol.vol x.node + (Vol.vol x.grade + (Vol.vol x.thick + (Vol.vol x.outer + (Vol.vol x.holes + (Vol.vol x.sect + (Vol.vol x.long + (Vol.vol x.mass + (Vol.vol x.centre + (Vol.vol x.at_ + (Vol.vol x.turn + (0))))))))))))))) := rfl
  have ok := d_parts.2 x hx
  clear e ed
  exact ⟨volSize x.id (by omega), ok.rev⟩
 ·have h1 := volMem hx
  have e1 : Vol.vol x = 1 + (Vol.vol x.id + (Vol.vol x.a + (Vol.vol x.b + (Vol.vol x.kind + (Vol.vol x.long + (Vol.vol x.cls + (0))))))) := rfl
  have ok := d_seams.2 x hx
  clear e ed
  exact ⟨volSize x.id (by omega), ok.2.2.2.2.2⟩
 ·have h1 := volMem hx
  have e1 : Vol.vol x = 1 + (Vol.vol x.id + (Vol.vol x.block + (Vol.vol x.parts + (Vol.vol x.hours + (Vol.vol x.after + (0)))))) := rfl
  have ok := d_packs.2 x hx
  clear e ed
  exact volSize x.id (by omega)
 ·have h1 := volMem hx
  have e1 : Vol.vol x = 1 + (Vol.vol x.part + (Vol.vol x.rev + (Vol.vol x.from_ + (Vol.vol x.heat + (Vol.vol x.state + (Vol.vol x.at_ + (0))))))) := rfl
  have ok := o_pieces.2 x hx
  clear e ed
  exact ⟨volSize x.from_ (by omega), volSize x.heat (by omega)⟩
 ·have h1 := volMem hx
  have e1 : Vol.vol x = 1 + (Vol.vol x.seam + (Vol.vol x.state + (Vol.vol x.cls + (Vol.vol x.proc + (Vol.vol x.by_ + (Vol.vol x.at_ + (Vol.vol x.repairs + (Vol.vol x.passed + (0))))))))) := rfl
  have ok := o_welds.2 x hx
  clear e ed
  exact ⟨volSize x.by_ (by omega), volSize x.proc (by omega), ok.2.2.2.2.2.1, ok.2.2.2.2.2.2.1, volLen x.passed (by omega), ok.2.2.2.2.2.2.2.2⟩
 ·have h1 := volMem hx
  have e1 : Vol.vol x = 1 + (Vol.vol x.id + (Vol.vol x.after + (Vol.vol x.done + (0)))) := rfl
  have ok := o_tests.2 x hx
  clear e ed
  exact volSize x.id (by omega)
end Go.Proofs.YtojlhapbngcjkaaGreatDoor
namespace Go.Proofs.YtojlhapbngcjkaaGreatDoor
open Go Go.RowKit Go.ChangeShapes
set_option maxRecDepth 100000
theorem cs_pieces {z : Nat} : ∀ {c : List (List Value)} {cs : List Value}, cs.length = c.length * z → (∀ i p, c[i]? = some p → (cs.drop (i * z)).take z = p) → cs = c.flatten
 | [], cs, hl, _ => by simp at hl; simp [hl]
 | a :: c, cs, hl, h => by
  have h0 := h 0 a rfl
  simp only [Nat.zero_mul, List.drop_zero] at h0
  have ih := cs_pieces (z := z) (c := c) (cs := cs.drop z) (by rw [List.length_drop, hl, List.length_cons, Nat.succ_mul]; omega) fun i p hp => by
   rw [List.drop_drop]
   have := h (i + 1) p (by simpa using hp)
   rwa [Nat.succ_mul, Nat.add_comm] at this
  rw [List.flatten_cons, ← ih, ← h0, List.take_append_drop]
def flat1 : DataW Unit → List Value
 | .lit (.string b) => [.string ⟨b.toArray⟩]
 | .lit (.int k n) => [.int k n]
 | _ => []
def flat2 : DataW Unit → List Value
 | .agg l => l.flatMap flat1
 | d => flat1 d
section
variable {enc : TypeId × Value → Unit} {P : Program} {w : World} {base : Nat} {spare : Nat → Bool} {held : Bool} {fuel : Nat} {t e : TypeId} {cs : List Value} {x : DataW Unit × List MemPlace}
theorem flat_int {k : IntKind} (ht : P.underlying t = some (.int k)) (h : DataW.trod enc P w base spare held fuel t cs = some x) : cs = flat1 x.1 := by
 obtain ⟨s, rfl, rfl, _⟩ := DataW.trod_int ht h
 rfl
theorem flat_array {n : Nat} {F : DataW Unit → List Value} (ht : P.underlying t = some (.array n e)) (hz : P.cellsOf t = n * P.cellsOf e) (h : DataW.trod enc P w base spare held fuel t cs = some x)
  (hF : ∀ fuel cs x, DataW.trod enc P w base spare held fuel e cs = some x → cs = F x.1) : ∃ l, x.1 = .agg l ∧ cs = (l.map F).flatten := by
 obtain ⟨xs, m, _, rfl, hl, hxl, hi⟩ := DataW.trod_array ht h
 refine ⟨_, rfl, cs_pieces (z := P.cellsOf e) (by rw [List.length_map, List.length_map, hxl, hl, hz]) fun i p hp => ?_⟩
 rw [List.getElem?_map, List.getElem?_map] at hp
 cases hx : xs[i]? with
 | none => rw [hx] at hp; cases hp
 | some y =>
  rw [hx] at hp
  simp only [Option.map_some, Option.some.injEq] at hp
  subst hp
  have hin : i < n := by
   rw [← hxl]
   rcases Nat.lt_or_ge i xs.length with h' | h'
   ·exact h'
   ·rw [List.getElem?_eq_none h'] at hx; cases hx
  exact hF _ _ _ ((hi i hin).trans hx)
theorem flat_pair {f0 f1 : Field} (ht : P.underlying t = some (.struct #[f0, f1])) (hz : P.cellsOf t = 2) (h0 : f0.offset = 0) (h1 : f1.offset = 1) (c0 : P.cellsOf f0.type = 1) (c1 : P.cellsOf f1.type = 1) {k : IntKind}
  (u0 : P.underlying f0.type = some (.int k)) (u1 : P.underlying f1.type = some (.int k)) (h : DataW.trod enc P w base spare held fuel t cs = some x) : cs = flat2 x.1 := by
 obtain ⟨y0, y1, n, rfl, hl, g0, g1⟩ := trod_struct2 ht h
 rw [h0, c0] at g0
 rw [h1, c1] at g1
 have e0 := flat_int u0 g0
 have e1 := flat_int u1 g1
 match cs, hl.trans hz with
 | [a, b], _ =>
  simp at e0 e1
  show [a, b] = [y0.1, y1.1].flatMap flat1
  simp [← e0, ← e1]
end
theorem glob_laid {W : World} (h : laidMetH Tryz.prog Rows.deliveryChecksRow.laid W) : ∀ g cs, glob g = some cs → ∃ t fz, W.heap[g]? = some (.cells cs t fz) := by
 rw [MakeChecks.laidMetH_plain _ _ _ (by kernel_rfl)] at h
 obtain ⟨ps, ⟨g0, t0, cs0, fuel0, p0, q0, hg0, ht0, hv0, htr0, ⟨g1, t1, cs1, fuel1, p1, q1, hg1, ht1, hv1, htr1, ⟨g2, t2, cs2, fuel2, p2, q2, hg2, ht2, hv2, htr2, ⟨g3, t3, cs3, fuel3, p3, q3, hg3, ht3, hv3, htr3, ⟨g4, t4, cs4, fuel4, p4, q4, hg4, ht4, hv4, htr4, ⟨g5, t5, cs5, fuel5, p5, q5, hg5, ht5, hv5, htr5, ⟨g6, t6, cs6, fuel6, p6, q6, hg6, ht6, hv6, htr6, _⟩, _⟩, _⟩, _⟩, _⟩, _⟩, _⟩, _, _⟩ := h
 have heap : ∀ {n : String} {g : Nat} {cs : Array Value}, Tryz.prog.globalNamed n = some g → W.var? Tryz.prog n = some cs → ∃ t fz, W.heap[g]? = some (.cells cs t fz) := fun {n g cs} hg hv => by
  simp only [World.var?, hg, Option.bind_some] at hv
  split at hv
  ·rename_i c t fz hh
   cases hv
   exact ⟨t, fz, hh⟩
  ·cases hv
 obtain rfl : 7 = g0 := Option.some.inj ((show Tryz.prog.globalNamed "math/bits.deBruijn32tab" = some 7 by kernel_rfl).symm.trans hg0)
 obtain rfl : 360 = t0 := Option.some.inj ((show (Tryz.prog.globals[7]?).map (·.type) = some 360 by kernel_rfl).symm.trans ht0)
 obtain ⟨l0, hl0, hc0⟩ := flat_array (F := flat1) Tryz.underlying360 (by kernel_rfl) htr0 fun fuel cs x hx => flat_int Tryz.underlying5 hx
 obtain rfl : 8 = g1 := Option.some.inj ((show Tryz.prog.globalNamed "math/bits.deBruijn64tab" = some 8 by kernel_rfl).symm.trans hg1)
 obtain rfl : 361 = t1 := Option.some.inj ((show (Tryz.prog.globals[8]?).map (·.type) = some 361 by kernel_rfl).symm.trans ht1)
 obtain ⟨l1, hl1, hc1⟩ := flat_array (F := flat1) Tryz.underlying361 (by kernel_rfl) htr1 fun fuel cs x hx => flat_int Tryz.underlying5 hx
 obtain rfl : 6 = g2 := Option.some.inj ((show Tryz.prog.globalNamed "internal/strconv.uint64pow10" = some 6 by kernel_rfl).symm.trans hg2)
 obtain rfl : 318 = t2 := Option.some.inj ((show (Tryz.prog.globals[6]?).map (·.type) = some 318 by kernel_rfl).symm.trans ht2)
 obtain ⟨l2, hl2, hc2⟩ := flat_array (F := flat1) Tryz.underlying318 (by kernel_rfl) htr2 fun fuel cs x hx => flat_int Tryz.underlying145 hx
 obtain rfl : 0 = g3 := Option.some.inj ((show Tryz.prog.globalNamed "shipyard/digest.halves" = some 0 by kernel_rfl).symm.trans hg3)
 obtain rfl : 207 = t3 := Option.some.inj ((show (Tryz.prog.globals[0]?).map (·.type) = some 207 by kernel_rfl).symm.trans ht3)
 obtain ⟨l3, hl3, hc3⟩ := flat_array (F := flat1) Tryz.underlying207 (by kernel_rfl) htr3 fun fuel cs x hx => flat_int Tryz.underlying160 hx
 obtain rfl : 5 = g4 := Option.some.inj ((show Tryz.prog.globalNamed "unicode/utf8.acceptRanges" = some 5 by kernel_rfl).symm.trans hg4)
 obtain rfl : 313 = t4 := Option.some.inj ((show (Tryz.prog.globals[5]?).map (·.type) = some 313 by kernel_rfl).symm.trans ht4)
 obtain ⟨l4, hl4, hc4⟩ := flat_array (F := flat2) Tryz.underlying313 (by kernel_rfl) htr4 fun fuel cs x hx => flat_pair Tryz.underlying312 (by kernel_rfl) rfl rfl (by kernel_rfl) (by kernel_rfl) Tryz.underlying5 Tryz.underlying5 hx
 obtain rfl : 1 = g5 := Option.some.inj ((show Tryz.prog.globalNamed "shipyard/bevel.kinds" = some 1 by kernel_rfl).symm.trans hg5)
 obtain rfl : 287 = t5 := Option.some.inj ((show (Tryz.prog.globals[1]?).map (·.type) = some 287 by kernel_rfl).symm.trans ht5)
 obtain ⟨l5, hl5, hc5⟩ := flat_array (F := flat1) Tryz.underlying287 (by kernel_rfl) htr5 fun fuel cs x hx => flat_int Tryz.underlying3 hx
 obtain rfl : 2 = g6 := Option.some.inj ((show Tryz.prog.globalNamed "shipyard/bevel.greatest" = some 2 by kernel_rfl).symm.trans hg6)
 obtain rfl : 287 = t6 := Option.some.inj ((show (Tryz.prog.globals[2]?).map (·.type) = some 287 by kernel_rfl).symm.trans ht6)
 obtain ⟨l6, hl6, hc6⟩ := flat_array (F := flat1) Tryz.underlying287 (by kernel_rfl) htr6 fun fuel cs x hx => flat_int Tryz.underlying3 hx
 cases hl0
 cases hl1
 cases hl2
 cases hl3
 cases hl4
 cases hl5
 cases hl6
 intro k c hk
 unfold glob at hk
 cases b0 : k.beq 2 with
 | true =>
  rw [b0, cond_true] at hk
  obtain rfl := Nat.eq_of_beq_eq_true b0
  cases hk
  have := heap hg6 hv6
  rwa [show cs6 = _ from Array.toList_inj.1 (hc6.trans (by kernel_rfl))] at this
 | false =>
  rw [b0, cond_false] at hk
  cases b1 : k.beq 1 with
  | true =>
   rw [b1, cond_true] at hk
   obtain rfl := Nat.eq_of_beq_eq_true b1
   cases hk
   have := heap hg5 hv5
   rwa [show cs5 = _ from Array.toList_inj.1 (hc5.trans (by kernel_rfl))] at this
  | false =>
   rw [b1, cond_false] at hk
   cases b2 : k.beq 5 with
   | true =>
    rw [b2, cond_true] at hk
    obtain rfl := Nat.eq_of_beq_eq_true b2
    cases hk
    have := heap hg4 hv4
    rwa [show cs4 = _ from Array.toList_inj.1 (hc4.trans (by kernel_rfl))] at this
   | false =>
    rw [b2, cond_false] at hk
    cases b3 : k.beq 0 with
    | true =>
     rw [b3, cond_true] at hk
     obtain rfl := Nat.eq_of_beq_eq_true b3
     cases hk
     have := heap hg3 hv3
     rwa [show cs3 = _ from Array.toList_inj.1 (hc3.trans (by kernel_rfl))] at this
    | false =>
     rw [b3, cond_false] at hk
     cases b4 : k.beq 6 with
     | true =>
      rw [b4, cond_true] at hk
      obtain rfl := Nat.eq_of_beq_eq_true b4
      cases hk
      have := heap hg2 hv2
      rwa [show cs2 = _ from Array.toList_inj.1 (hc2.trans (by kernel_rfl))] at this
     | false =>
      rw [b4, cond_false] at hk
      cases b5 : k.beq 8 with
      | true =>
       rw [b5, cond_true] at hk
       obtain rfl := Nat.eq_of_beq_eq_true b5
       cases hk
       have := heap hg1 hv1
       rwa [show cs1 = _ from Array.toList_inj.1 (hc1.trans (by kernel_rfl))] at this
      | false =>
       rw [b5, cond_false] at hk
       cases b6 : k.beq 7 with
       | true =>
        rw [b6, cond_true] at hk
        obtain rfl := Nat.eq_of_beq_eq_true b6
        cases hk
        have := heap hg0 hv0
        rwa [show cs0 = _ from Array.toList_inj.1 (hc0.trans (by kernel_rfl))] at this
       | false => rw [b6] at hk; cases hk
end Go.Proofs.YtojlhapbngcjkaaGreatDoor

namespace Go.Proofs.YtojlhapbngcjkaaGreatDoor
open Go Go.RowKit Go.ChangeShapes Go.WideShapes Go.ChangeAt Go.Deep Go.Joins
theorem Tryz.own : ownKnob Tryz.prog.godebug = none := by kernel_rfl
theorem Tryz.laidOut : laidOutB Tryz.prog = true := by kernel_rfl
theorem trodAll_stays {H : Type} {enc : TypeId × Value → H} {P : Program} {W W' : World} {sp' : Nat → Bool} (hl : laidOutB P = true) : ∀ {ts : List TypeId} {vs : List Value} {ds : List (DataW H)} {ps : List MemPlace},
  (ts.all fun t => P.readableRec t && decide (t < P.types.size)) = true → DataW.TrodAll enc P W 0 (fun _ => true) true ts vs ds ps → (∀ p ∈ ps, W.sameAt W' p) → (∀ p ∈ ps, sp' p.block = true) →
  DataW.TrodAll enc P W' 0 sp' true ts vs ds ps := by
 intro ts
 induction ts with
 | nil =>
  intro vs ds ps _ h _ _
  obtain ⟨rfl, rfl, rfl⟩ := trodAll_nil h
  exact trodAll_mk0
 | cons t ts ih =>
  intro vs ds ps hr h hs hp
  obtain ⟨v, vs', d, ds', p, q, rfl, rfl, rfl, hd, hrest⟩ := trodAll_cons h
  simp only [List.all_cons, Bool.and_eq_true, decide_eq_true_eq] at hr
  exact trodAll_cons_mk (WideElems.Trod_stays hl hr.1.1 hr.1.2 hd (fun x hx => hs x (by simp [hx])) (fun x hx => hp x (by simp [hx])))
   (ih hr.2 hrest (fun x hx => hs x (by simp [hx])) (fun x hx => hp x (by simp [hx])))
end Go.Proofs.YtojlhapbngcjkaaGreatDoor

