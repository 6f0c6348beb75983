/-
  Put together out of several texts, each in its own namespace's block. Conditions: as each theorem states them.
-/
import Derived.Test.YtojlhapbngcjkaaGreatDoorQZv
import Derived.Test.YtojlhapbngcjkaaGreatDoorQBase
import Derived.Test.YtojlhapbngcjkaaGreatDoorQSi
import Derived.Test.YtojlhapbngcjkaaGreatDoorRows
import Derived.Test.YtojlhapbngcjkaaGreatDoorChecked
import Derived.Test.YtojlhapbngcjkaaGreatDoorQEva
import Derived.MakeChecks
import Derived.OpenShut
import Derived.ChangeBears2
import Derived.ProofKit
import Derived.LaidMore
import Derived.Stop.Joined
noncomputable section
namespace Go.Proofs.YtojlhapbngcjkaaGreatDoor
open Go Go.RowKit
set_option maxRecDepth 100000
set_option maxHeartbeats 8000000
def node0 : Value := .agg #[.string ⟨#[66, 49]⟩, .int .i64 1, .string ⟨#[]⟩]
def part0 : Value := .agg #[.string ⟨#[80, 49]⟩, .int .i64 1, .int .i64 4, .string ⟨#[66, 49]⟩, .string ⟨#[]⟩, .int .i64 0, tree 2 0 #[], tree 1 0 #[], .string ⟨#[]⟩, .int .i64 0, .int .i64 5000, .int .i64 0, .int .i64 0, .int .i64 0, .int .i64 0, .int .i64 0, .int .i64 0, .int .i64 0]
def state0 : Value := .agg #[.int .i64 0, .string ⟨#[72, 49]⟩, tree 3 1 #[node0], tree 18 1 #[part0], tree 6 0 #[], tree 5 0 #[], tree 3 0 #[], tree 1 0 #[], tree 6 0 #[], tree 5 0 #[], tree 6 0 #[], tree 6 0 #[], tree 8 0 #[], tree 1 0 #[], tree 8 0 #[], tree 3 0 #[], tree 4 0 #[], tree 3 0 #[], .int .i64 (-1), .int .i64 (-1)]
def setup0 : Value := .agg #[tree 4 0 #[], tree 4 0 #[], tree 6 0 #[], tree 6 0 #[], tree 2 0 #[], tree 2 0 #[], tree 1 2 #[.int .i64 0, .int .i64 1000], tree 1 2 #[.int .i64 0, .int .i64 500], tree 1 2 #[tree 1 2 #[.int .i64 500, .int .i64 500], tree 1 2 #[.int .i64 500, .int .i64 500]], .int .i64 1025, .int .i64 500, .int .i64 0, .int .i64 500, tree 3 0 #[], .string ⟨#[72, 49]⟩, tree 3 1 #[node0], tree 18 1 #[part0], tree 6 0 #[], tree 5 0 #[], tree 3 0 #[]]
def matT : ByteArray := ⟨#[77, 65, 84, 69, 82, 73, 65, 76, 83, 32, 72, 49, 10, 80, 49, 32, 114, 101, 118, 32, 49, 32, 109, 105, 115, 115, 105, 110, 103, 10]⟩
def weldT : ByteArray := ⟨#[87, 69, 76, 68, 83, 32, 72, 49, 10]⟩
def wtsT : ByteArray := ⟨#[87, 69, 73, 71, 72, 84, 83, 32, 72, 49, 10, 116, 111, 116, 97, 108, 32, 109, 97, 115, 115, 32, 48, 32, 115, 105, 103, 109, 97, 32, 48, 10]⟩
def bodyT : ByteArray := ⟨#[77, 65, 84, 69, 82, 73, 65, 76, 83, 32, 72, 49, 10, 80, 49, 32, 114, 101, 118, 32, 49, 32, 109, 105, 115, 115, 105, 110, 103, 10, 87, 69, 76, 68, 83, 32, 72, 49, 10, 87, 69, 73, 71, 72, 84, 83, 32, 72, 49, 10, 116, 111, 116, 97, 108, 32, 109, 97, 115, 115, 32, 48, 32, 115, 105, 103, 109, 97, 32, 48, 10, 79, 80, 69, 78, 32, 51, 10, 98, 108, 111, 99, 107, 32, 66, 49, 32, 105, 115, 32, 110, 111, 116, 32, 101, 114, 101, 99, 116, 101, 100, 10, 112, 97, 114, 116, 32, 80, 49, 32, 105, 115, 32, 110, 111, 116, 32, 97, 115, 115, 101, 109, 98, 108, 101, 100, 10, 104, 117, 108, 108, 32, 105, 115, 32, 110, 111, 116, 32, 108, 97, 117, 110, 99, 104, 101, 100, 10]⟩
def sumT : ByteArray := ⟨#[54, 50, 97, 52, 51, 50, 48, 101]⟩
def bookT : ByteArray := ⟨#[77, 65, 84, 69, 82, 73, 65, 76, 83, 32, 72, 49, 10, 80, 49, 32, 114, 101, 118, 32, 49, 32, 109, 105, 115, 115, 105, 110, 103, 10, 87, 69, 76, 68, 83, 32, 72, 49, 10, 87, 69, 73, 71, 72, 84, 83, 32, 72, 49, 10, 116, 111, 116, 97, 108, 32, 109, 97, 115, 115, 32, 48, 32, 115, 105, 103, 109, 97, 32, 48, 10, 79, 80, 69, 78, 32, 51, 10, 98, 108, 111, 99, 107, 32, 66, 49, 32, 105, 115, 32, 110, 111, 116, 32, 101, 114, 101, 99, 116, 101, 100, 10, 112, 97, 114, 116, 32, 80, 49, 32, 105, 115, 32, 110, 111, 116, 32, 97, 115, 115, 101, 109, 98, 108, 101, 100, 10, 104, 117, 108, 108, 32, 105, 115, 32, 110, 111, 116, 32, 108, 97, 117, 110, 99, 104, 101, 100, 10, 67, 72, 69, 67, 75, 83, 85, 77, 32, 54, 50, 97, 52, 51, 50, 48, 101, 10]⟩
def inlDoc : List FuncId := [21, 23, 57, 58, 113, 22, 56, 112, 164, 169, 24]
def baseD : PCall := ofV (tabCallF Tryz.prog [⟨33, c_joinV⟩] noCall)
theorem baseD_ok : PCallOk Tryz.prog baseD := ofV_ok (tabCallF_ok (by
 intro e he
 simp only [List.mem_cons, List.not_mem_nil, or_false] at he
 subst he
 exact ok_joinV) noCall_ok)
def callD : PCall := inlP Tryz.prog inlDoc baseD 12
theorem callD_ok : PCallOk Tryz.prog callD := inlP_ok mixed baseD_ok 12
def mkD : Nat → GCall (Option ByteArray) := mkW inlDoc baseD
theorem mkD_ok (W0 : Base) (c kb : Nat) : GCallOk Tryz.prog (HidO W0 c) kb (c, 0, 2) (mkD kb) := mkW_ok mixed baseD_ok W0 c kb
def inlWt : List FuncId := inlDoc ++ [50, 53, 108, 98, 154, 159, 250, 212, 213, 214, 215, 216, 211, 210]
theorem nls_of {l : List Value} (h : l.all nl1 = true) : NLs l := fun v hv => List.all_eq_true.1 h v hv
theorem pure_acall {P : Program} (hm : P.follows .mixedOrders = true) {orc : ACall} (ho : ∀ W, CallOk P W orc) {k f : Nat} {args : List Value} {v : Value} (hv : nl v = true) (h : (match acallO P orc k f args .e 0 with | some (u, _) => veqFlat u v | none => false) = true) : Pure P f args fun u => u = v := by
 split at h
 case h_2 => cases h
 rename_i u st hc
 obtain rfl := veqFlat_eq h
 intro W ρ w args' hrel hargs
 refine ((acode_sound hm ho k).2.2 W f args .e 0 u st.1 st.2 hc ρ w args' hrel hargs).mono ?_
 rintro e w' ⟨v', ρ', rfl, h1, h2, h3⟩
 exact ⟨u, st.1, st.2, v', ρ', rfl, rfl, nl_sound hv h1, h2, ⟨fun b x hb => by omega, h3.le.2⟩⟩
def weight0 : Value := .agg #[.int .i64 0, .int .i64 0, .int .i64 0, .int .i64 0, .int .i64 0]
theorem sigma0 : Pure Tryz.prog 51 [weight0] fun u => u = .int .i64 0 := pure_acall mixed noA_ok (k := 300) rfl (by kernel_rfl)
def baseW : PCall := ofV (tabCallF Tryz.prog [⟨33, c_joinV⟩, ⟨51, c_at [weight0] (.int .i64 0)⟩] noCall)
theorem baseW_ok : PCallOk Tryz.prog baseW := ofV_ok (tabCallF_ok (by
 intro e he
 simp only [List.mem_cons, List.not_mem_nil, or_false] at he
 rcases he with rfl | rfl
 ·exact ok_joinV
 ·exact ok_at sigma0) noCall_ok)
def callW : PCall := inlP Tryz.prog inlWt baseW 12
theorem callW_ok : PCallOk Tryz.prog callW := inlP_ok mixed baseW_ok 12
def mkWt : Nat → GCall (Option ByteArray) := mkW inlWt baseW
theorem mkWt_ok (W0 : Base) (c kb : Nat) : GCallOk Tryz.prog (HidO W0 c) kb (c, 0, 2) (mkWt kb) := mkW_ok mixed baseW_ok W0 c kb
theorem e_mat0  (H : HT) (Post : PX) : (fun _ => vcW callD mkD 7 [state0]) H Post = (let q6 := ByteArray.mk #[114, 101, 118]; let q5 := cellAt #[part0] (Int.toNat 0) (0 + 1); let q4 := ByteArray.mk #[109, 105, 115, 115, 105, 110, 103]; let q3 := ByteArray.mk #[77, 65, 84, 69, 82, 73, 65, 76, 83]; let q2 := toS (cellAt #[part0] 0 0); let q1 := ByteArray.extract (ByteArray.mk #[48, 49, 50, 51, 52, 53, 54, 55, 56, 57, 97, 98, 99, 100, 101, 102, 103, 104, 105, 106, 107, 108, 109, 110, 111, 112, 113, 114, 115, 116, 117, 118, 119, 120, 121, 122]) 1 2; T8 (T2 (((2 ≤ 2 ∧ NLs [vs q3, vs (ByteArray.mk #[72, 49])]) ∧ True ∧ True) ∧ true = true ∧ 2 ≤ 140737488355328 ∧ 12 ≤ 140737488355328 ∧ True ∧ 13 ≤ 9223372036854775807 ∧ 13 ≤ 140737488355328 ∧ T4 (T2 (True ∧ (toI (vi 0) ≤ 0 ∧ toI (vi 0) < (↑1 : Int)) ∧ (vs (ByteArray.mk #[80, 49]) = vs q2 ∧ vi 1 = vi (toI (cellAt #[part0] 0 1)) ∧ vi 4 = vi (toI (cellAt #[part0] 0 2)) ∧ vs (ByteArray.mk #[66, 49]) = vs (toS (cellAt #[part0] 0 3)) ∧ vz = vs (toS (cellAt #[part0] 0 4)) ∧ vi 0 = vi (toI (cellAt #[part0] 0 5)) ∧ tree 2 0 #[] = tree 2 0 #[] ∧ tree 1 0 #[] = tree 1 0 #[] ∧ vz = vs (toS (cellAt #[part0] 0 8)) ∧ vi 0 = vi (toI (cellAt #[part0] 0 9)) ∧ vi 5000 = vi (toI (cellAt #[part0] 0 10)) ∧ vi 0 = vi (toI (cellAt #[part0] 0 11)) ∧ vi 0 = vi (toI (cellAt #[part0] 0 12)) ∧ vi 0 = vi (toI (cellAt #[part0] 0 13)) ∧ vi 0 = vi (toI (cellAt #[part0] 0 14)) ∧ vi 0 = vi (toI (cellAt #[part0] 0 15)) ∧ vi 0 = vi (toI (cellAt #[part0] 0 16)) ∧ vi 0 = vi (toI (cellAt #[part0] 0 17)) ∧ True) ∧ True ∧ 18 ≤ 18 ∧ T16 (T8 (T2 ((toI (vi 0) ≤ IntKind.wrap IntKind.i64 (toI q5 + 1) ∧ toI (vi 0) ≤ toI q5 ∧ 1 ≤ 2 ∧ 2 ≤ 36) ∧ T4 (True ∧ ((vs q2 = vs q2 ∧ True) ∧ True) ∧ T16 (T8 (T2 (True ∧ 6 ≤ 6 ∧ T2 (True ∧ 6 ≤ 6 ∧ T4 (True ∧ 6 ≤ 6 ∧ T4 (True ∧ 1 ≤ 1 ∧ 4 ≤ 33554432 ∧ true = true ∧ 1 = 1 ∧ 3 = 3 ∧ T4 (((4 ≤ 4 ∧ NLs [vs q2, vs q6, vs q1, vs q4]) ∧ True ∧ True) ∧ true = true ∧ 4 ≤ 140737488355328 ∧ 16 ≤ 140737488355328 ∧ True ∧ 17 ≤ 9223372036854775807 ∧ 30 ≤ 140737488355328 ∧ T4 (True ∧ 0 < 30 ∧ True ∧ (True ∧ True) ∧ true = true ∧ Post (Out.ret (vs (ByteArray.empty ++ (joinB (List.map toS [(vs q3), (vs (ByteArray.mk #[72, 49]))]) (ByteArray.mk #[32]) ++ ByteArray.mk #[10]) ++ (joinB (List.map toS [(vs q2), (vs q6), (vs q1), (vs q4)]) (ByteArray.mk #[32]) ++ ByteArray.mk #[10])))) []))))))))))))))))) := by kernel_rfl
theorem e_weld0  (H : HT) (Post : PX) : (fun _ => vcW callD mkD 9 [state0]) H Post = (let q1 := ByteArray.mk #[87, 69, 76, 68, 83]; T8 (T2 (((2 ≤ 2 ∧ NLs [vs q1, vs (ByteArray.mk #[72, 49])]) ∧ True ∧ True) ∧ true = true ∧ 2 ≤ 140737488355328 ∧ 8 ≤ 140737488355328 ∧ True ∧ 9 ≤ 9223372036854775807 ∧ 9 ≤ 140737488355328 ∧ T8 (T2 (True ∧ 0 < 9 ∧ True ∧ (True ∧ True) ∧ true = true ∧ Post (Out.ret (vs (ByteArray.empty ++ (joinB (List.map toS [(vs q1), (vs (ByteArray.mk #[72, 49]))]) (ByteArray.mk #[32]) ++ ByteArray.mk #[10])))) []))))) := by kernel_rfl
theorem e_wts0  (H : HT) (Post : PX) : (fun _ => vcW callW mkWt 19 [setup0, state0]) H Post = (let q8 := ByteArray.mk #[109, 97, 115, 115]; let q7 := ByteArray.mk #[115, 105, 103, 109, 97]; let q6 := ByteArray.mk #[116, 111, 116, 97, 108]; let q5 := ByteArray.mk #[87, 69, 73, 71, 72, 84, 83]; let q3 := IntKind.wrap IntKind.i64 0; let q4 := #[vi q3, vi q3, vi q3, vi q3, vi q3]; let q2 := (toI (vi 0) ≤ (↑0 : Int) ∧ toI (vi (↑0 : Int)) ≤ (↑0 : Int) ∧ toI (vi (↑0 : Int)) ≤ 2 ^ 25); let q1 := ByteArray.extract (ByteArray.mk #[48, 49, 50, 51, 52, 53, 54, 55, 56, 57, 97, 98, 99, 100, 101, 102, 103, 104, 105, 106, 107, 108, 109, 110, 111, 112, 113, 114, 115, 116, 117, 118, 119, 120, 121, 122]) 0 1; T8 (T4 (((2 ≤ 2 ∧ NLs [vs q5, vs (ByteArray.mk #[72, 49])]) ∧ True ∧ True) ∧ true = true ∧ 2 ≤ 140737488355328 ∧ 10 ≤ 140737488355328 ∧ True ∧ 11 ≤ 9223372036854775807 ∧ 11 ≤ 140737488355328 ∧ T32 (True ∧ 1 ≤ 1 ∧ 1 ≤ 1 ∧ T8 (T2 (True ∧ q2 ∧ T32 (T8 (T4 (T2 (1 ≤ 5 ∧ T4 (1 ≤ 1 ∧ T8 (True ∧ q2 ∧ T32 (T8 (T4 (T2 (2 ≤ 5 ∧ T4 (1 ≤ 1 ∧ T8 (True ∧ q2 ∧ T32 (T8 (T4 (T2 (3 ≤ 5 ∧ T4 (1 ≤ 1 ∧ T8 (True ∧ q2 ∧ T32 (T8 (T4 (T2 (4 ≤ 5 ∧ T4 (1 ≤ 1 ∧ T8 (True ∧ q2 ∧ T32 (T8 (T4 (T2 (5 ≤ 5 ∧ T4 (1 ≤ 1 ∧ T32 (T32 (T32 (T2 (5 ≤ 5 ∧ T2 (True ∧ 5 ≤ 5 ∧ T2 (True ∧ 5 ≤ 5 ∧ T4 (True ∧ 5 ≤ 5 ∧ T32 (True ∧ (toI (vi 0) ≤ IntKind.wrap IntKind.i64 (IntKind.wrap IntKind.i64 0 + 1) ∧ toI (vi 0) ≤ IntKind.wrap IntKind.i64 0 ∧ 0 ≤ 1 ∧ 1 ≤ 36) ∧ T4 (True ∧ ((Value.agg q4 = Value.agg q4 ∧ True) ∧ True) ∧ ((T4 (True ∧ True)) ∧ True) ∧ eqL [Value.agg q4] [Value.agg #[vi 0, vi 0, vi 0, vi 0, vi 0]] ∧ T16 (T4 (T2 (True ∧ (toI (vi 0) ≤ IntKind.wrap IntKind.i64 (0 + 1) ∧ toI (vi 0) ≤ 0 ∧ 0 ≤ 1 ∧ 1 ≤ 36) ∧ T16 (True ∧ ((5 ≤ 5 ∧ NLs [vs q6, vs q8, vs q1, vs q7, vs q1]) ∧ True ∧ True) ∧ true = true ∧ 5 ≤ 140737488355328 ∧ 20 ≤ 140737488355328 ∧ True ∧ 21 ≤ 9223372036854775807 ∧ 32 ≤ 140737488355328 ∧ T2 (0 < 32 ∧ T2 ((T2 (True ∧ True)) ∧ true = true ∧ Post (Out.ret (Value.tuple #[vs (ByteArray.empty ++ (joinB (List.map toS [(vs q5), (vs (ByteArray.mk #[72, 49]))]) (ByteArray.mk #[32]) ++ ByteArray.mk #[10]) ++ (joinB (List.map toS [(vs q6), (vs q8), (vs q1), (vs q7), (vs q1)]) (ByteArray.mk #[32]) ++ ByteArray.mk #[10])), vi 0])) [])))))))))))))))))))))))))))))))))))))))))))))))))) := by kernel_rfl
theorem specX_pure {f : FuncId} {args : List Value} {v : Value} (h : SpecX Tryz.prog f 0 (hpOf []) args (xpost 0 fun r c => r = .ret v ∧ c = [])) : Pure Tryz.prog f args fun u => u = v := by
 refine B.pure_of_X ?_
 intro W ρ w args' h1 h2 h3
 refine (h W ρ w args' h1 h2 h3).mono fun e w' ⟨r, hp', nx', ρ', g1, g2⟩ => ⟨r, hp', nx', ρ', ?_, g2⟩
 unfold xpost at g1 ⊢
 split at g1
 ·obtain ⟨k1, rfl, rfl⟩ := g1
  exact ⟨k1, rfl⟩
 ·exact g1.elim
theorem mat0 : Pure Tryz.prog 7 [state0] fun u => u = .string matT := by
 refine specX_pure (spec_W callD_ok mkD_ok mixed (by kernel_rfl) (Eq.mpr (e_mat0 (fun _ _ _ => True) _) ?_))
 repeat' (first | exact rfl | exact nls_of rfl | refine And.intro ?_ ?_ | trivial | decide | kernel_rfl)
theorem weld0 : Pure Tryz.prog 9 [state0] fun u => u = .string weldT := by
 refine specX_pure (spec_W callD_ok mkD_ok mixed (by kernel_rfl) (Eq.mpr (e_weld0 (fun _ _ _ => True) _) ?_))
 repeat' (first | exact rfl | exact nls_of rfl | refine And.intro ?_ ?_ | trivial | decide | kernel_rfl)
theorem wts0 : Pure Tryz.prog 19 [setup0, state0] fun u => u = .tuple #[.string wtsT, .int .i64 0] := by
 refine specX_pure (spec_W callW_ok mkWt_ok mixed (by kernel_rfl) (Eq.mpr (e_wts0 (fun _ _ _ => True) _) ?_))
 repeat' (first | exact rfl | exact nls_of rfl | refine And.intro ?_ ?_ | trivial | decide | kernel_rfl)
theorem pure_eq {f : FuncId} {a : List Value} {v : Value} {c : List Value → (Value → Prop) → Prop} (h : EntOk Tryz.prog ⟨f, c⟩) (hc : c a fun u => u = v) : Pure Tryz.prog f a fun u => u = v := h a _ hc
def fnSum : List Value → Option (List Value × Value)
 | [.string s] => bif s.size.ble 1000000 then some ([.string s], .string (sumS s)) else none
 | _ => none
theorem sumE : FEntryOk Tryz.prog ⟨44, [], fnSum⟩ := by
 intro us ps v h
 dsimp only at h
 unfold fnSum at h
 split at h
 case h_2 => cases h
 rename_i s
 cases hb : s.size.ble 1000000 with
 | false => rw [hb] at h; cases h
 | true =>
  rw [hb] at h
  cases h
  exact pure_eq ok_sum ⟨s, rfl, Nat.le_trans (Nat.le_of_ble_eq_true hb) (by decide), rfl⟩
theorem sum_body : sumS bodyT = sumT := by kernel_rfl
theorem sum0 : Pure Tryz.prog 44 [.string bodyT] fun u => u = .string sumT := pure_eq ok_sum ⟨bodyT, rfl, by decide, by rw [sum_body]⟩
def inlBk : List FuncId := inlDoc ++ [12, 32, 36, 34, 35, 63]
def baseBk : PCall := ofV (tabCallF Tryz.prog [⟨33, c_joinV⟩, ⟨7, c_at [state0] (.string matT)⟩, ⟨9, c_at [state0] (.string weldT)⟩, ⟨19, c_at [setup0, state0] (.tuple #[.string wtsT, .int .i64 0])⟩, ⟨44, c_at [.string bodyT] (.string sumT)⟩] noCall)
theorem baseBk_ok : PCallOk Tryz.prog baseBk := ofV_ok (tabCallF_ok (by
 intro e he
 simp only [List.mem_cons, List.not_mem_nil, or_false] at he
 rcases he with rfl | rfl | rfl | rfl | rfl
 ·exact ok_joinV
 ·exact ok_at mat0
 ·exact ok_at weld0
 ·exact ok_at wts0
 ·exact ok_at sum0) noCall_ok)
def callB : PCall := inlP Tryz.prog inlBk baseBk 12
theorem callB_ok : PCallOk Tryz.prog callB := inlP_ok mixed baseBk_ok 12
def mkB : Nat → GCall (Option ByteArray) := mkW inlBk baseBk
theorem mkB_ok (W0 : Base) (c kb : Nat) : GCallOk Tryz.prog (HidO W0 c) kb (c, 0, 2) (mkB kb) := mkW_ok mixed baseBk_ok W0 c kb
theorem e_book0  (H : HT) (Post : PX) : (fun _ => vcW callB mkB 20 [setup0, state0]) H Post = (let q15 := ByteArray.mk #[66, 49]; let q26 := #[Value.agg #[vs q15, vi 1, vz]]; let q25 := ByteArray.mk #[79, 80, 69, 78]; let q6 := ByteArray.mk #[104, 117, 108, 108, 32, 105, 115, 32, 110, 111, 116, 32, 108, 97, 117, 110, 99, 104, 101, 100]; let q7 := ByteArray.mk #[32]; let q24 := joinB (List.map toS [(vs q6)]) q7; let q23 := ByteArray.mk #[112, 97, 114, 116]; let q22 := IntKind.wrap IntKind.i64 (0 + 1) + 1; let q21 := ByteArray.mk #[98, 108, 111, 99, 107]; let q20 := T16 (T4 (True)); let q19 := toS (cellAt #[part0] 0 0); let q18 := (↑(1 + 1 + 1) : Int); let q17 := (toI (vi 0) ≤ 0 ∧ toI (vi 0) < (↑1 : Int)); let q16 := ByteArray.mk #[105, 115, 32, 110, 111, 116, 32, 101, 114, 101, 99, 116, 101, 100]; let q12 := ByteArray.mk #[105, 115, 32, 110, 111, 116, 32, 97, 115, 115, 101, 109, 98, 108, 101, 100]; let q4 := joinB (List.map toS [(vs q23), (vs q19), (vs q12)]) q7; let q14 := joinB (List.map toS [(Value.cells (Value.cells (vs q4))[0])[0]]) q7 ++ ByteArray.mk #[10]; let q10 := toS (cellAt #[node0] 0 0); let q3 := joinB (List.map toS [(vs q21), (Value.cells (Value.cells (vs q10))[0])[0], (vs q16)]) q7; let q13 := joinB (List.map toS [(Value.cells (Value.cells (vs q3))[0])[0]]) q7 ++ ByteArray.mk #[10]; let q5 := ByteArray.extract (ByteArray.mk #[48, 49, 50, 51, 52, 53, 54, 55, 56, 57, 97, 98, 99, 100, 101, 102, 103, 104, 105, 106, 107, 108, 109, 110, 111, 112, 113, 114, 115, 116, 117, 118, 119, 120, 121, 122]) 3 4; let q11 := joinB (List.map toS [(vs q25), (vs q5)]) q7 ++ ByteArray.mk #[10]; let q9 := joinB (List.map toS [(Value.cells (Value.cells (vs q24))[0])[0]]) q7 ++ ByteArray.mk #[10]; let q8 := #[Value.agg #[vs (ByteArray.mk #[80, 49]), vi 1, vi 4, vs q15, vz, vi 0, tree 2 0 #[], tree 1 0 #[], vz, vi 0, vi 5000, vi 0, vi 0, vi 0, vi 0, vi 0, vi 0, vi 0]]; let q1 := #[vi 0, vs (ByteArray.mk #[72, 49]), tree 3 1 q26, tree 18 1 q8, tree 6 0 #[], tree 5 0 #[], tree 3 0 #[], tree 1 0 #[], tree 6 0 #[], tree 5 0 #[], tree 6 0 #[], tree 6 0 #[], tree 8 0 #[], tree 1 0 #[], tree 8 0 #[], tree 3 0 #[], tree 4 0 #[], tree 3 0 #[], vi (-1), vi (-1)]; let q2 := [Value.agg #[tree 4 0 #[], tree 4 0 #[], tree 6 0 #[], tree 6 0 #[], tree 2 0 #[], tree 2 0 #[], tree 1 2 #[vi 0, vi 1000], tree 1 2 #[vi 0, vi 500], tree 1 2 #[tree 1 2 #[vi 500, vi 500], tree 1 2 #[vi 500, vi 500]], vi 1025, vi 500, vi 0, vi 500, tree 3 0 #[], vs (ByteArray.mk #[72, 49]), tree 3 1 q26, tree 18 1 q8, tree 6 0 #[], tree 5 0 #[], tree 3 0 #[]], Value.agg q1]; T4 (T2 ((q20 ∧ q20 ∧ True) ∧ eqL q2 q2 ∧ T8 (T2 (True ∧ (q20 ∧ True) ∧ eqL [Value.agg q1] [Value.agg q1] ∧ ((Value.agg q1 = Value.agg q1 ∧ True) ∧ True) ∧ (q20 ∧ True) ∧ eqL [Value.agg q1] [Value.agg q1] ∧ True ∧ 39 ≤ 9223372036854775807 ∧ 71 ≤ 9223372036854775807 ∧ 71 ≤ 140737488355328 ∧ T16 (T2 (q17 ∧ (vs q15 = vs q10 ∧ vi 1 = vi (toI (cellAt #[node0] 0 1)) ∧ vz = vs (toS (cellAt #[node0] 0 2)) ∧ True) ∧ True ∧ 3 ≤ 3 ∧ T4 (T2 (True ∧ 1 ≤ 1 ∧ 1 ≤ 33554432 ∧ true = true ∧ 1 = 1 ∧ T8 (True ∧ q17 ∧ T2 (1 ≤ 1 ∧ T16 (True ∧ ((vs q10 = vs q10 ∧ True) ∧ True) ∧ T4 (((3 ≤ 3 ∧ NLs [vs q21, vs q10, vs q16]) ∧ True ∧ True) ∧ true = true ∧ 3 ≤ 140737488355328 ∧ 23 ≤ 140737488355328 ∧ ((nS = nS ∧ True) ∧ True) ∧ True ∧ 1 ≤ 1 ∧ 1 ≤ 33554432 ∧ true = true ∧ 1 = 1 ∧ True ∧ 1 ≤ 1 ∧ T8 (T2 (True ∧ q17 ∧ (vs (ByteArray.mk #[80, 49]) = vs q19 ∧ vi 1 = vi (toI (cellAt #[part0] 0 1)) ∧ vi 4 = vi (toI (cellAt #[part0] 0 2)) ∧ vs q15 = vs (toS (cellAt #[part0] 0 3)) ∧ vz = vs (toS (cellAt #[part0] 0 4)) ∧ vi 0 = vi (toI (cellAt #[part0] 0 5)) ∧ tree 2 0 #[] = tree 2 0 #[] ∧ tree 1 0 #[] = tree 1 0 #[] ∧ vz = vs (toS (cellAt #[part0] 0 8)) ∧ vi 0 = vi (toI (cellAt #[part0] 0 9)) ∧ vi 5000 = vi (toI (cellAt #[part0] 0 10)) ∧ vi 0 = vi (toI (cellAt #[part0] 0 11)) ∧ vi 0 = vi (toI (cellAt #[part0] 0 12)) ∧ vi 0 = vi (toI (cellAt #[part0] 0 13)) ∧ vi 0 = vi (toI (cellAt #[part0] 0 14)) ∧ vi 0 = vi (toI (cellAt #[part0] 0 15)) ∧ vi 0 = vi (toI (cellAt #[part0] 0 16)) ∧ vi 0 = vi (toI (cellAt #[part0] 0 17)) ∧ True) ∧ True ∧ 18 ≤ 18 ∧ T16 (T8 (True ∧ 6 ≤ 6 ∧ T2 (True ∧ 6 ≤ 6 ∧ T4 (True ∧ 6 ≤ 6 ∧ T8 (T2 (True ∧ ((3 ≤ 3 ∧ NLs [vs q23, vs q19, vs q12]) ∧ True ∧ True) ∧ true = true ∧ 3 ≤ 140737488355328 ∧ 24 ≤ 140737488355328 ∧ ((Value.slice (some (Addr.mk 13 0 none)) 1 1 = Value.slice (some (Addr.mk 13 0 none)) 1 1 ∧ True) ∧ True) ∧ True ∧ 1 ≤ 1 ∧ 2 ≤ 33554432 ∧ true = true ∧ 1 = 1 ∧ 1 = 1 ∧ True ∧ 1 ≤ 1 ∧ T16 (T8 (T4 (True ∧ ((1 ≤ 1 ∧ NLs [vs q6]) ∧ True ∧ True) ∧ true = true ∧ 1 ≤ 140737488355328 ∧ 20 ≤ 140737488355328 ∧ ((Value.slice (some (Addr.mk 23 0 none)) 2 1 = Value.slice (some (Addr.mk 23 0 none)) 2 1 ∧ True) ∧ True) ∧ True ∧ 1 ≤ 1 ∧ 3 ≤ 33554432 ∧ true = true ∧ 1 = 1 ∧ 2 = 2 ∧ True ∧ 1 ≤ 1 ∧ T16 (T8 (T4 ((toI (vi 0) ≤ IntKind.wrap IntKind.i64 (q18 + 1) ∧ toI (vi 0) ≤ q18 ∧ 3 ≤ 4 ∧ 4 ≤ 36) ∧ T8 (T2 (((2 ≤ 2 ∧ NLs [vs q25, vs q5]) ∧ True ∧ True) ∧ true = true ∧ 2 ≤ 140737488355328 ∧ 6 ≤ 140737488355328 ∧ True ∧ 7 ≤ 9223372036854775807 ∧ 78 ≤ 140737488355328 ∧ T4 (True ∧ (toI (vi 0) ≤ 0 ∧ toI (vi 0) < q18) ∧ T8 (((1 ≤ 1 ∧ NLs [vs q3]) ∧ True ∧ True) ∧ true = true ∧ 1 ≤ 140737488355328 ∧ 23 ≤ 140737488355328 ∧ True ∧ 24 ≤ 9223372036854775807 ∧ 102 ≤ 140737488355328 ∧ T4 ((toI (vi 0) ≤ IntKind.wrap IntKind.i64 (0 + 1) ∧ toI (vi (IntKind.wrap IntKind.i64 (0 + 1))) < q18) ∧ T8 (((1 ≤ 1 ∧ NLs [vs q4]) ∧ True ∧ True) ∧ true = true ∧ 1 ≤ 140737488355328 ∧ 24 ≤ 140737488355328 ∧ True ∧ 25 ≤ 9223372036854775807 ∧ 127 ≤ 140737488355328 ∧ T4 ((toI (vi 0) ≤ IntKind.wrap IntKind.i64 q22 ∧ toI (vi (IntKind.wrap IntKind.i64 q22)) < q18) ∧ T8 (((1 ≤ 1 ∧ NLs [vs q24]) ∧ True ∧ True) ∧ true = true ∧ 1 ≤ 140737488355328 ∧ 20 ≤ 140737488355328 ∧ True ∧ 21 ≤ 9223372036854775807 ∧ 148 ≤ 140737488355328 ∧ T4 (True ∧ 0 < 148 ∧ T2 (157 ≤ 9223372036854775807 ∧ True ∧ (True ∧ True) ∧ eqL [vs (ByteArray.empty ++ (matT ++ weldT ++ wtsT) ++ q11 ++ q13 ++ q14 ++ q9)] [vs bodyT] ∧ 165 ≤ 9223372036854775807 ∧ 166 ≤ 9223372036854775807 ∧ T2 ((T2 (True ∧ True)) ∧ true = true ∧ Post (Out.ret (Value.tuple #[vs (ByteArray.empty ++ (matT ++ weldT ++ wtsT) ++ q11 ++ q13 ++ q14 ++ q9 ++ ByteArray.mk #[67, 72, 69, 67, 75, 83, 85, 77, 32] ++ sumT ++ ByteArray.mk #[10]), vi 0])) [])))))))))))))))))))))))))))))))))))))) := by kernel_rfl
theorem book0 : Pure Tryz.prog 20 [setup0, state0] fun u => u = .tuple #[.string bookT, .int .i64 0] := by
 refine specX_pure (spec_W callB_ok mkB_ok mixed (by kernel_rfl) (Eq.mpr (e_book0 (fun _ _ _ => True) _) ?_))
 repeat' (first | exact rfl | exact nls_of rfl | refine And.intro ?_ ?_ | trivial | decide | kernel_rfl)
def fnJoin : List Value → Option (List Value × Value)
 | [.func (.via 1 p n false) els c, .string sep] => bif p.isEmpty && c.isEmpty && n.beq els.size && els.toList.all isStr && els.size.ble 1000000 && (joinB (els.toList.map toS) sep).size.ble 1000000 then
   some ([.func (.via 1 p n false) els c, .string sep], .string (joinB (els.toList.map toS) sep)) else none
 | _ => none
theorem joinE : FEntryOk Tryz.prog ⟨33, [], fnJoin⟩ := by
 intro us ps v h
 dsimp only at h
 unfold fnJoin at h
 split at h
 case h_2 => cases h
 rename_i p n els c sep
 cases hb : p.isEmpty && c.isEmpty && n.beq els.size && els.toList.all isStr && els.size.ble 1000000 && (joinB (els.toList.map toS) sep).size.ble 1000000 with
 | false => rw [hb] at h; cases h
 | true =>
  rw [hb] at h
  cases h
  rw [Bool.and_eq_true, Bool.and_eq_true] at hb
  obtain ⟨⟨h1, h2⟩, h3⟩ := hb
  exact pure_eq ok_joinV ⟨h1, Nat.le_trans (Nat.le_of_ble_eq_true h2) (by decide), Nat.le_trans (Nat.le_of_ble_eq_true h3) (by decide), rfl⟩
def orcA : ACall := orcF Tryz.prog [⟨33, [], fnJoin⟩, ⟨44, [], fnSum⟩, ⟨7, [], atF [state0] (.string matT)⟩, ⟨9, [], atF [state0] (.string weldT)⟩,
 ⟨19, [(0, 8)], atF [setup0, state0] (.tuple #[.string wtsT, .int .i64 0])⟩, ⟨20, [(0, 8)], atF [setup0, state0] (.tuple #[.string bookT, .int .i64 0])⟩] noA
theorem orcA_ok : ∀ W, CallOk Tryz.prog W orcA := orcF_ok (by
 intro e he
 simp only [List.mem_cons, List.not_mem_nil, or_false] at he
 rcases he with rfl | rfl | rfl | rfl | rfl | rfl
 ·exact joinE
 ·exact sumE
 ·exact atF_ok mat0
 ·exact atF_ok weld0
 ·exact atF_ok wts0
 ·exact atF_ok book0) noA_ok
theorem alive_yields : yieldsO Tryz.prog orcA 1000 6 = true := by kernel_rfl
def c_alive (args : List Value) (Post : Value → Prop) : Prop := args = [] ∧ Post (.bool true)
theorem ok_alive : EntOk Tryz.prog ⟨6, c_alive⟩ := pure_yieldsO mixed orcA_ok alive_yields
theorem law_DeliveryChecks (t : ByteArray) : Pure Tryz.prog 4 [.string t] fun v => v = .bool true := by
 refine pure_P (tabCall_ok (by
  intro e he
  simp only [List.mem_cons, List.not_mem_nil, or_false] at he
  rcases he with rfl | rfl | rfl
  ·exact ok_check ok_trim
  ·exact ok_rchk
  ·exact ok_alive) noCall_ok) mixed (by kernel_rfl) (by kernel_rfl) _ (e_law t _ _) ?_
 simp only [true_and]
 refine ifC (fun _ => trivial) (fun h => ⟨t, rfl, by omega, t, rfl, by omega, ?_⟩)
 exact ifC (fun _ => trivial) (fun hn => absurd rfl hn)
end Go.Proofs.YtojlhapbngcjkaaGreatDoor
namespace Go.Proofs.YtojlhapbngcjkaaGreatDoor
open Go Go.RowKit Go.ChangeShapes
set_option maxRecDepth 100000
theorem cs_pieces {z : Nat} : ∀ {c : List (List Value)} {cs : List Value}, cs.length = c.length * z → (∀ i p, c[i]? = some p → (cs.drop (i * z)).take z = p) → cs = c.flatten
 | [], cs, hl, _ => by simp at hl; simp [hl]
 | a :: c, cs, hl, h => by
  have h0 := h 0 a rfl
  simp only [Nat.zero_mul, List.drop_zero] at h0
  have ih := cs_pieces (z := z) (c := c) (cs := cs.drop z) (by rw [List.length_drop, hl, List.length_cons, Nat.succ_mul]; omega) fun i p hp => by
   rw [List.drop_drop]
   have := h (i + 1) p (by simpa using hp)
   rwa [Nat.succ_mul, Nat.add_comm] at this
  rw [List.flatten_cons, ← ih, ← h0, List.take_append_drop]
def flat1 : DataW Unit → List Value
 | .lit (.string b) => [.string ⟨b.toArray⟩]
 | .lit (.int k n) => [.int k n]
 | _ => []
def flat2 : DataW Unit → List Value
 | .agg l => l.flatMap flat1
 | d => flat1 d
section
variable {enc : TypeId × Value → Unit} {P : Program} {w : World} {base : Nat} {spare : Nat → Bool} {held : Bool} {fuel : Nat} {t e : TypeId} {cs : List Value} {x : DataW Unit × List MemPlace}
theorem flat_int {k : IntKind} (ht : P.underlying t = some (.int k)) (h : DataW.trod enc P w base spare held fuel t cs = some x) : cs = flat1 x.1 := by
 obtain ⟨s, rfl, rfl, _⟩ := DataW.trod_int ht h
 rfl
theorem flat_array {n : Nat} {F : DataW Unit → List Value} (ht : P.underlying t = some (.array n e)) (hz : P.cellsOf t = n * P.cellsOf e) (h : DataW.trod enc P w base spare held fuel t cs = some x)
  (hF : ∀ fuel cs x, DataW.trod enc P w base spare held fuel e cs = some x → cs = F x.1) : ∃ l, x.1 = .agg l ∧ cs = (l.map F).flatten := by
 obtain ⟨xs, m, _, rfl, hl, hxl, hi⟩ := DataW.trod_array ht h
 refine ⟨_, rfl, cs_pieces (z := P.cellsOf e) (by rw [List.length_map, List.length_map, hxl, hl, hz]) fun i p hp => ?_⟩
 rw [List.getElem?_map, List.getElem?_map] at hp
 cases hx : xs[i]? with
 | none => rw [hx] at hp; cases hp
 | some y =>
  rw [hx] at hp
  simp only [Option.map_some, Option.some.injEq] at hp
  subst hp
  have hin : i < n := by
   rw [← hxl]
   rcases Nat.lt_or_ge i xs.length with h' | h'
   ·exact h'
   ·rw [List.getElem?_eq_none h'] at hx; cases hx
  exact hF _ _ _ ((hi i hin).trans hx)
theorem flat_pair {f0 f1 : Field} (ht : P.underlying t = some (.struct #[f0, f1])) (hz : P.cellsOf t = 2) (h0 : f0.offset = 0) (h1 : f1.offset = 1) (c0 : P.cellsOf f0.type = 1) (c1 : P.cellsOf f1.type = 1) {k : IntKind}
  (u0 : P.underlying f0.type = some (.int k)) (u1 : P.underlying f1.type = some (.int k)) (h : DataW.trod enc P w base spare held fuel t cs = some x) : cs = flat2 x.1 := by
 obtain ⟨y0, y1, n, rfl, hl, g0, g1⟩ := trod_struct2 ht h
 rw [h0, c0] at g0
 rw [h1, c1] at g1
 have e0 := flat_int u0 g0
 have e1 := flat_int u1 g1
 match cs, hl.trans hz with
 | [a, b], _ =>
  simp at e0 e1
  show [a, b] = [y0.1, y1.1].flatMap flat1
  simp [← e0, ← e1]
end
theorem glob_laid {W : World} (h : laidMetH Tryz.prog Rows.deliveryChecksRow.laid W) : ∀ g cs, glob g = some cs → ∃ t fz, W.heap[g]? = some (.cells cs t fz) := by
 rw [MakeChecks.laidMetH_plain _ _ _ (by kernel_rfl)] at h
 obtain ⟨ps, ⟨g0, t0, cs0, fuel0, p0, q0, hg0, ht0, hv0, htr0, ⟨g1, t1, cs1, fuel1, p1, q1, hg1, ht1, hv1, htr1, ⟨g2, t2, cs2, fuel2, p2, q2, hg2, ht2, hv2, htr2, ⟨g3, t3, cs3, fuel3, p3, q3, hg3, ht3, hv3, htr3, ⟨g4, t4, cs4, fuel4, p4, q4, hg4, ht4, hv4, htr4, ⟨g5, t5, cs5, fuel5, p5, q5, hg5, ht5, hv5, htr5, ⟨g6, t6, cs6, fuel6, p6, q6, hg6, ht6, hv6, htr6, _⟩, _⟩, _⟩, _⟩, _⟩, _⟩, _⟩, _, _⟩ := h
 have heap : ∀ {n : String} {g : Nat} {cs : Array Value}, Tryz.prog.globalNamed n = some g → W.var? Tryz.prog n = some cs → ∃ t fz, W.heap[g]? = some (.cells cs t fz) := fun {n g cs} hg hv => by
  simp only [World.var?, hg, Option.bind_some] at hv
  split at hv
  ·rename_i c t fz hh
   cases hv
   exact ⟨t, fz, hh⟩
  ·cases hv
 obtain rfl : 7 = g0 := Option.some.inj ((show Tryz.prog.globalNamed "math/bits.deBruijn32tab" = some 7 by kernel_rfl).symm.trans hg0)
 obtain rfl : 360 = t0 := Option.some.inj ((show (Tryz.prog.globals[7]?).map (·.type) = some 360 by kernel_rfl).symm.trans ht0)
 obtain ⟨l0, hl0, hc0⟩ := flat_array (F := flat1) Tryz.underlying360 (by kernel_rfl) htr0 fun fuel cs x hx => flat_int Tryz.underlying5 hx
 obtain rfl : 8 = g1 := Option.some.inj ((show Tryz.prog.globalNamed "math/bits.deBruijn64tab" = some 8 by kernel_rfl).symm.trans hg1)
 obtain rfl : 361 = t1 := Option.some.inj ((show (Tryz.prog.globals[8]?).map (·.type) = some 361 by kernel_rfl).symm.trans ht1)
 obtain ⟨l1, hl1, hc1⟩ := flat_array (F := flat1) Tryz.underlying361 (by kernel_rfl) htr1 fun fuel cs x hx => flat_int Tryz.underlying5 hx
 obtain rfl : 6 = g2 := Option.some.inj ((show Tryz.prog.globalNamed "internal/strconv.uint64pow10" = some 6 by kernel_rfl).symm.trans hg2)
 obtain rfl : 318 = t2 := Option.some.inj ((show (Tryz.prog.globals[6]?).map (·.type) = some 318 by kernel_rfl).symm.trans ht2)
 obtain ⟨l2, hl2, hc2⟩ := flat_array (F := flat1) Tryz.underlying318 (by kernel_rfl) htr2 fun fuel cs x hx => flat_int Tryz.underlying145 hx
 obtain rfl : 0 = g3 := Option.some.inj ((show Tryz.prog.globalNamed "shipyard/digest.halves" = some 0 by kernel_rfl).symm.trans hg3)
 obtain rfl : 207 = t3 := Option.some.inj ((show (Tryz.prog.globals[0]?).map (·.type) = some 207 by kernel_rfl).symm.trans ht3)
 obtain ⟨l3, hl3, hc3⟩ := flat_array (F := flat1) Tryz.underlying207 (by kernel_rfl) htr3 fun fuel cs x hx => flat_int Tryz.underlying160 hx
 obtain rfl : 5 = g4 := Option.some.inj ((show Tryz.prog.globalNamed "unicode/utf8.acceptRanges" = some 5 by kernel_rfl).symm.trans hg4)
 obtain rfl : 313 = t4 := Option.some.inj ((show (Tryz.prog.globals[5]?).map (·.type) = some 313 by kernel_rfl).symm.trans ht4)
 obtain ⟨l4, hl4, hc4⟩ := flat_array (F := flat2) Tryz.underlying313 (by kernel_rfl) htr4 fun fuel cs x hx => flat_pair Tryz.underlying312 (by kernel_rfl) rfl rfl (by kernel_rfl) (by kernel_rfl) Tryz.underlying5 Tryz.underlying5 hx
 obtain rfl : 1 = g5 := Option.some.inj ((show Tryz.prog.globalNamed "shipyard/bevel.kinds" = some 1 by kernel_rfl).symm.trans hg5)
 obtain rfl : 287 = t5 := Option.some.inj ((show (Tryz.prog.globals[1]?).map (·.type) = some 287 by kernel_rfl).symm.trans ht5)
 obtain ⟨l5, hl5, hc5⟩ := flat_array (F := flat1) Tryz.underlying287 (by kernel_rfl) htr5 fun fuel cs x hx => flat_int Tryz.underlying3 hx
 obtain rfl : 2 = g6 := Option.some.inj ((show Tryz.prog.globalNamed "shipyard/bevel.greatest" = some 2 by kernel_rfl).symm.trans hg6)
 obtain rfl : 287 = t6 := Option.some.inj ((show (Tryz.prog.globals[2]?).map (·.type) = some 287 by kernel_rfl).symm.trans ht6)
 obtain ⟨l6, hl6, hc6⟩ := flat_array (F := flat1) Tryz.underlying287 (by kernel_rfl) htr6 fun fuel cs x hx => flat_int Tryz.underlying3 hx
 cases hl0
 cases hl1
 cases hl2
 cases hl3
 cases hl4
 cases hl5
 cases hl6
 intro k c hk
 unfold glob at hk
 cases b0 : k.beq 2 with
 | true =>
  rw [b0, cond_true] at hk
  obtain rfl := Nat.eq_of_beq_eq_true b0
  cases hk
  have := heap hg6 hv6
  rwa [show cs6 = _ from Array.toList_inj.1 (hc6.trans (by kernel_rfl))] at this
 | false =>
  rw [b0, cond_false] at hk
  cases b1 : k.beq 1 with
  | true =>
   rw [b1, cond_true] at hk
   obtain rfl := Nat.eq_of_beq_eq_true b1
   cases hk
   have := heap hg5 hv5
   rwa [show cs5 = _ from Array.toList_inj.1 (hc5.trans (by kernel_rfl))] at this
  | false =>
   rw [b1, cond_false] at hk
   cases b2 : k.beq 5 with
   | true =>
    rw [b2, cond_true] at hk
    obtain rfl := Nat.eq_of_beq_eq_true b2
    cases hk
    have := heap hg4 hv4
    rwa [show cs4 = _ from Array.toList_inj.1 (hc4.trans (by kernel_rfl))] at this
   | false =>
    rw [b2, cond_false] at hk
    cases b3 : k.beq 0 with
    | true =>
     rw [b3, cond_true] at hk
     obtain rfl := Nat.eq_of_beq_eq_true b3
     cases hk
     have := heap hg3 hv3
     rwa [show cs3 = _ from Array.toList_inj.1 (hc3.trans (by kernel_rfl))] at this
    | false =>
     rw [b3, cond_false] at hk
     cases b4 : k.beq 6 with
     | true =>
      rw [b4, cond_true] at hk
      obtain rfl := Nat.eq_of_beq_eq_true b4
      cases hk
      have := heap hg2 hv2
      rwa [show cs2 = _ from Array.toList_inj.1 (hc2.trans (by kernel_rfl))] at this
     | false =>
      rw [b4, cond_false] at hk
      cases b5 : k.beq 8 with
      | true =>
       rw [b5, cond_true] at hk
       obtain rfl := Nat.eq_of_beq_eq_true b5
       cases hk
       have := heap hg1 hv1
       rwa [show cs1 = _ from Array.toList_inj.1 (hc1.trans (by kernel_rfl))] at this
      | false =>
       rw [b5, cond_false] at hk
       cases b6 : k.beq 7 with
       | true =>
        rw [b6, cond_true] at hk
        obtain rfl := Nat.eq_of_beq_eq_true b6
        cases hk
        have := heap hg0 hv0
        rwa [show cs0 = _ from Array.toList_inj.1 (hc0.trans (by kernel_rfl))] at this
       | false => rw [b6] at hk; cases hk
end Go.Proofs.YtojlhapbngcjkaaGreatDoor

namespace Go.Proofs.YtojlhapbngcjkaaGreatDoor
open Go Go.RowKit Go.ChangeShapes Go.WideShapes Go.ChangeAt Go.Deep Go.Joins
section
variable {H : Type} {enc : TypeId × Value → H} {P : Program} {w : World} {base : Nat} {spare : Nat → Bool} {held : Bool}
theorem post_of_below {f : Func} {s : ChangeSpec} {apart fresh handsOn again : Bool} {W W' : World} {args : Array Value} {v : Value} {ds gs : List (DataW H)} {before pa pv : List MemPlace}
  (hW : DataW.Whole enc P f.params.toList s.vars apart W args.toList ds gs before)
  (hres : ∀ (b : Nat) (sp : Nat → Bool) (hd : Bool), DataW.TrodAll enc P W' b sp hd f.resultTypes.toList (v.resultList f.resultTypes.size) (s.fn H (ds ++ gs)).results [])
  (hargs : ∀ sp : Nat → Bool, (∀ p ∈ before, sp p.block = true) → DataW.TrodAll enc P W' 0 sp true f.params.toList args.toList (s.fn H (ds ++ gs)).args pa)
  (hvars : ∀ sp : Nat → Bool, (∀ p ∈ before, sp p.block = true) → DataW.TrodVars enc P W' sp s.vars (s.fn H (ds ++ gs)).vars pv)
  (hps : before = pa ++ pv) (hb : Below W.heap.size W W')
  (hok : ∀ (j : Nat) (t : TypeId) (r : Value), f.resultTypes[j]? = some t → (v.resultList f.resultTypes.size)[j]? = some r → Value.okWide P W' .any 0 t r) :
  s.post enc P f apart fresh handsOn again W args v W' := by
 have hlt : ∀ p ∈ before, p.block < W.heap.size := fun p hp => hW.lt p hp
 have hold : ∀ p ∈ before, (fun b => decide (b < W.heap.size)) p.block = true := fun p hp => by simpa using hlt p hp
 refine ⟨ds, gs, before, [], pa, pv, hW, hres _ _ _, hargs _ hold, hvars _ hold, World.keptBut_mono (fun p hp => ⟨hp, ?_⟩) (hb.frame (· ∈ before)), fun _ => ?_⟩
 ·rw [hps, List.mem_append] at hp
  exact Or.inr hp
 ·obtain ⟨_, _, _, _, _, hz, hn⟩ := hW
  refine ⟨hok, _, _, ([] ++ pa) ++ pv, ⟨[] ++ pa, pv, trodAll_append (hargs _ (fun _ _ => rfl)) (hres _ _ _), hvars _ (fun _ _ => rfl), rfl, ?_, ?_⟩, ?_⟩
  ·intro b off hp
   have hin : MemPlace.cell b off ∈ before := by rw [hps]; simpa using hp
   rw [hb.frozen (hlt _ hin)]
   exact hz b off hin
  ·intro ha
   have := hn ha
   rw [hps] at this
   simpa using this
  ·intro p hp _
   rw [hps]
   simpa using hp
end
end Go.Proofs.YtojlhapbngcjkaaGreatDoor

noncomputable section
namespace Go.Proofs.YtojlhapbngcjkaaGreatDoor
open Go Go.RowKit Go.ChangeShapes Go.WideShapes Go.ChangeAt Go.Deep Go.Joins
def frW (w : World) : Nat → Option Obj := fun c => w.heap[c]?
def VRC (fr : Nat → Option Obj) (l cs : List Value) : Prop := l.length = cs.length ∧ ∀ (i : Nat) (v v' : Value), l[i]? = some v → cs[i]? = some v' → VR0 fr v v'
theorem VRC.one {fr : Nat → Option Obj} {v v' : Value} (h : VR0 fr v v') : VRC fr [v] [v'] := ⟨rfl, fun i a b ha hb => by
 cases i with
 | zero => simp at ha hb; subst ha hb; exact h
 | succ i => simp at ha⟩
theorem VRC.append {fr : Nat → Option Obj} {l m cs ds : List Value} (h : VRC fr l cs) (k : VRC fr m ds) : VRC fr (l ++ m) (cs ++ ds) := by
 refine ⟨by rw [List.length_append, List.length_append, h.1, k.1], fun i a b ha hb => ?_⟩
 rcases Nat.lt_or_ge i l.length with hi | hi
 ·rw [List.getElem?_append_left hi] at ha
  rw [List.getElem?_append_left (by rw [← h.1]; exact hi)] at hb
  exact h.2 i a b ha hb
 ·rw [List.getElem?_append_right hi] at ha
  rw [List.getElem?_append_right (by rw [← h.1]; exact hi), ← h.1] at hb
  exact k.2 _ a b ha hb
theorem VRC.step {fr : Nat → Option Obj} {l m cs : List Value} {o k : Nat} (h : VRC fr l ((cs.drop o).take k)) (r : VRC fr m (cs.drop (o + k))) : VRC fr (l ++ m) (cs.drop o) := by
 have := h.append r
 rwa [← List.drop_drop, List.take_append_drop] at this
theorem VRC.next {fr : Nat → Option Obj} {l m cs : List Value} {o k : Nat} (h : VRC fr l ((cs.drop o).take k)) (r : VRC fr m (cs.drop (o + l.length))) : VRC fr (l ++ m) (cs.drop o) := by
 have e : (cs.drop o).take k = (cs.drop o).take l.length := by
  have h1 := h.1
  rw [List.length_take] at h1
  rcases Nat.le_total k (cs.drop o).length with hk | hk
  ·rw [show l.length = k by omega]
  ·rw [List.take_of_length_le hk, List.take_of_length_le (by omega)]
 rw [e] at h
 exact h.step r
theorem VRC.done {fr : Nat → Option Obj} {cs : List Value} {n : Nat} (h : cs.length = n) : VRC fr [] (cs.drop n) := by
 rw [List.drop_eq_nil_of_le (by omega)]
 exact ⟨rfl, fun i a b ha => by simp at ha⟩
def Opens (P : Program) (w : World) (t : TypeId) (α : Type) [Enc α] (Ok : α → Prop) : Prop :=
 ∀ (H : Type) (enc : TypeId × Value → H) (base : Nat) (spare : Nat → Bool) (held : Bool) (fuel : Nat) (cs : List Value) (x : DataW H × List MemPlace), DataW.trod enc P w base spare held fuel t cs = some x → ∃ a : α, Ok a ∧ VRC (frW w) (Enc.cells a) cs
section
variable {P : Program} {w : World}
theorem opens_string {t : TypeId} (ht : P.underlying t = some .string) : Opens P w t ByteArray fun s => s.size ≤ maxLen := fun H enc base spare held fuel cs x h => by
 obtain ⟨s, rfl, _, hs⟩ := DataW.trod_string ht h
 exact ⟨s, hs, .one (.string _)⟩
theorem open_arg {t : TypeId} {α : Type} [Enc α] {Ok : α → Prop} (ho : Opens P w t α Ok) {H : Type} {enc : TypeId × Value → H} {base : Nat} {spare : Nat → Bool} {held : Bool} {v : Value} {d : DataW H} {p : List MemPlace} (h : DataW.Trod enc P w base spare held t v d p) :
  ∃ a : α, Ok a ∧ VRC (frW w) (Enc.cells a) v.cells.toList := by
 obtain ⟨fuel, hf⟩ := h
 exact ho H enc _ _ _ _ _ _ hf
theorem VRC.agg {l : List Value} {c : Array Value} (h : VRC (frW w) l c.toList) : VR0 (frW w) (.agg l.toArray) (.agg c) :=
 .agg (by simp [h.1]) fun i v v' a b => h.2 i v v' (by simpa using a) (by simpa using b)
theorem Pure.at {f : FuncId} {args : List Value} {Post : Value → Prop} (h : Pure P f args Post) (hg : ∀ g cs, glob g = some cs → ∃ t fz, w.heap[g]? = some (.cells cs t fz)) (hn : args.all nl = true) {args' : List Value} (hargs : VRC (frW w) args args') :
  Calls P f args'.toArray w fun e w' => ∃ v v', Post v ∧ e = .returned v' ∧ (closed v = true → v' = v) ∧ Below w.heap.size w w' := by
 refine (h.call hn (W := ⟨w, fun _ => False, frW w, []⟩) (ρ := ⟨fun _ => none, frW w, hg⟩) (hp := .e) (nx := 0) (w := w) ⟨fun b x hb => (by cases hb), fun b o c s z ho => (by cases ho), fun b b' x x' o o' ho => (by cases ho), fun b _ => rfl, ⟨rfl, rfl, rfl, Nat.le_refl _, fun _ _ => rfl⟩, fun c ob hc => hc, fun b o c s z ho => (by cases ho), fun c ob hc => .inl hc⟩ (.of hargs.1 fun i v v' a b => VR0.lift (ρ := ⟨fun _ => none, frW w, hg⟩) (hargs.2 i v v' a b))).mono ?_
 rintro e w' ⟨v, v', ρ', hP, rfl, hv, _, _, _, hb⟩
 exact ⟨v, v', hP, rfl, fun hc => closed_eq hc hv, hb⟩
end
end Go.Proofs.YtojlhapbngcjkaaGreatDoor

namespace Go.Proofs.YtojlhapbngcjkaaGreatDoor
open Go Go.RowKit Go.ChangeShapes Go.WideShapes Go.ChangeAt Go.Deep Go.Joins
theorem Tryz.own : ownKnob Tryz.prog.godebug = none := by kernel_rfl
theorem Tryz.laidOut : laidOutB Tryz.prog = true := by kernel_rfl
theorem trodAll_stays {H : Type} {enc : TypeId × Value → H} {P : Program} {W W' : World} {sp' : Nat → Bool} (hl : laidOutB P = true) : ∀ {ts : List TypeId} {vs : List Value} {ds : List (DataW H)} {ps : List MemPlace},
  (ts.all fun t => P.readableRec t && decide (t < P.types.size)) = true → DataW.TrodAll enc P W 0 (fun _ => true) true ts vs ds ps → (∀ p ∈ ps, W.sameAt W' p) → (∀ p ∈ ps, sp' p.block = true) →
  DataW.TrodAll enc P W' 0 sp' true ts vs ds ps := by
 intro ts
 induction ts with
 | nil =>
  intro vs ds ps _ h _ _
  obtain ⟨rfl, rfl, rfl⟩ := trodAll_nil h
  exact trodAll_mk0
 | cons t ts ih =>
  intro vs ds ps hr h hs hp
  obtain ⟨v, vs', d, ds', p, q, rfl, rfl, rfl, hd, hrest⟩ := trodAll_cons h
  simp only [List.all_cons, Bool.and_eq_true, decide_eq_true_eq] at hr
  exact trodAll_cons_mk (WideElems.Trod_stays hl hr.1.1 hr.1.2 hd (fun x hx => hs x (by simp [hx])) (fun x hx => hp x (by simp [hx])))
   (ih hr.2 hrest (fun x hx => hs x (by simp [hx])) (fun x hx => hp x (by simp [hx])))
end Go.Proofs.YtojlhapbngcjkaaGreatDoor

