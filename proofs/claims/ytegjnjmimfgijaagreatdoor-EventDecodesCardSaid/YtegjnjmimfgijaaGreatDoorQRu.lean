/-
  Put together out of several texts, each in its own namespace's block. Conditions: as each theorem states them.
-/
import Derived.Test.YtegjnjmimfgijaaGreatDoorQPk
import Derived.Test.YtegjnjmimfgijaaGreatDoorQWreb
import Derived.Test.YtegjnjmimfgijaaGreatDoorQBlg
import Derived.Test.YtegjnjmimfgijaaGreatDoorQVe
noncomputable section
namespace Go.Proofs.YtegjnjmimfgijaaGreatDoor
open Go Go.RowKit
set_option maxRecDepth 100000
set_option maxHeartbeats 8000000
theorem lim5 {a : Int} {i o b : ByteArray} {n : Int} {p : Bool} {ord : Order2} {sh : Sheet6} {bar : Bar5} {nest : Nest3} {saw : Saw3} {weig : Weig} {lift : Lift2} {per : Permit3} (hs : nest.spots.length < 2 ^ 62) {Post : Out → List (List Value) → Prop} (hP : Post (.ret (.tuple #[])) [eventC ⟨5, a, i, o, b, n, p, ord, sh, bar, nest, saw, weig, lift, per⟩, [.bool (longK 5 ⟨5, a, i, o, b, n, p, ord, sh, bar, nest, saw, weig, lift, per⟩), .bool (farK 5 ⟨5, a, i, o, b, n, p, ord, sh, bar, nest, saw, weig, lift, per⟩)]]) : SpecX Tryz.prog 22 2 (hpOf [eventC ⟨5, a, i, o, b, n, p, ord, sh, bar, nest, saw, weig, lift, per⟩, [.bool false, .bool false]]) argsLim (xpost 2 Post) := by
 have hF : ∀ lg fr, lg = longK 5 ⟨5, a, i, o, b, n, p, ord, sh, bar, nest, saw, weig, lift, per⟩ → fr = farK 5 ⟨5, a, i, o, b, n, p, ord, sh, bar, nest, saw, weig, lift, per⟩ → Post (.ret (.tuple #[])) [eventC ⟨5, a, i, o, b, n, p, ord, sh, bar, nest, saw, weig, lift, per⟩, [.bool lg, .bool fr]] := by rintro _ _ rfl rfl; exact hP
 have key := down (n := nest.spots.length) (p := fun k => ∀ lg fr, lg = (big nest.sheet || decide (32 < nest.spots.length) || (nest.spots.take k).any (fun s => big s.part)) → fr = (off nest.gap || (nest.spots.take k).any offSpot) → OkX Tryz.prog 22 argsLim 2 Post (lpC Tryz.prog 22 19) (lpK Tryz.prog 22 19) (stV [(0, some (.pointer (some ⟨0, 0, none⟩))), (1, some (.iface 67 (.pointer (some ⟨1, 0, none⟩)))), (132, some (.int .i64 nest.spots.length)), (133, some (.int .i64 k))] [(0, some (.cells (eventC ⟨5, a, i, o, b, n, p, ord, sh, bar, nest, saw, weig, lift, per⟩) true)), (1, some (.cells [.bool lg, .bool fr] true))] 2)) (fun lg fr hl hf => ?_) (fun k hk ih lg fr hl hf => ?_)
 ·have hX : ∀ lg fr, lg = (big nest.sheet || decide (32 < nest.spots.length)) → fr = (off nest.gap) → OkX Tryz.prog 22 argsLim 2 Post (lpC Tryz.prog 22 19) (lpK Tryz.prog 22 19) (stV [(0, some (.pointer (some ⟨0, 0, none⟩))), (1, some (.iface 67 (.pointer (some ⟨1, 0, none⟩)))), (132, some (.int .i64 nest.spots.length)), (133, some (.int .i64 (0 : Nat)))] [(0, some (.cells (eventC ⟨5, a, i, o, b, n, p, ord, sh, bar, nest, saw, weig, lift, per⟩) true)), (1, some (.cells [.bool lg, .bool fr] true))] 2) := fun lg fr h1 h2 => key lg fr (by rw [h1]; simp) (by rw [h2]; simp)
  refine spec_X (conts := [eventC ⟨5, a, i, o, b, n, p, ord, sh, bar, nest, saw, weig, lift, per⟩, [.bool false, .bool false]]) callC2_ok mixed (by kernel_rfl) (by kernel_rfl) [(19, [0, 1, 132, 133])] (e_lim5 ⟨5, a, i, o, b, n, p, ord, sh, bar, nest, saw, weig, lift, per⟩ _ _) ?_
  simp only [true_and, and_true]
  repeat' (first | exact rfl | refine pIfD (fun _ => ?_) (fun _ => ?_) | refine pIfN (fun h => absurd rfl h) (fun _ => ?_) | refine And.intro ?_ ?_ | trivial | decide | (refine hX _ _ ?_ ?_ <;> (simp [longK, farK, big, off]; try omega)))
 ·refine ok_X callC2_ok mixed [(19, [0, 1, 132, 133])] (l_lim5 ⟨5, a, i, o, b, n, p, ord, sh, bar, nest, saw, weig, lift, per⟩ lg fr _ _ _) ?_
  simp only [true_and, and_true]
  refine pIfD (fun hh => absurd hh (by omega)) (fun _ => ?_)
  rw [List.take_of_length_le (Nat.le_refl _)] at hl hf
  repeat' (first | exact rfl | refine And.intro ?_ ?_ | trivial | decide | exact hF _ _ (by rw [hl]; simp [longK]) (by rw [hf]; simp [farK]))
 ·refine ok_X callC2_ok mixed [(19, [0, 1, 132, 133])] (l_lim5 ⟨5, a, i, o, b, n, p, ord, sh, bar, nest, saw, weig, lift, per⟩ lg fr _ _ _) ?_
  have ek : ((k : Nat) : Int).toNat = k := by omega
  have el : nest.spots[k]? = some nest.spots[k] := List.getElem?_eq_getElem hk
  have hX : ∀ lg' fr', lg' = (lg || (fun s => big s.part) nest.spots[k]) → fr' = (fr || offSpot nest.spots[k]) → OkX Tryz.prog 22 argsLim 2 Post (lpC Tryz.prog 22 19) (lpK Tryz.prog 22 19) (stV [(0, some (.pointer (some ⟨0, 0, none⟩))), (1, some (.iface 67 (.pointer (some ⟨1, 0, none⟩)))), (132, some (.int .i64 nest.spots.length)), (133, some (.int .i64 ((k + 1 : Nat) : Int)))] [(0, some (.cells (eventC ⟨5, a, i, o, b, n, p, ord, sh, bar, nest, saw, weig, lift, per⟩) true)), (1, some (.cells [.bool lg', .bool fr'] true))] 2) := fun lg' fr' h1 h2 => ih lg' fr' (by rw [h1, hl, any_take hk]; simp [Bool.or_assoc]) (by rw [h2, hf, any_take hk]; simp [Bool.or_assoc])
  have hs := hs
  clear ih hP hF hl hf
  simp only [true_and, and_true, ek, wrapSucc (show k < 2 ^ 62 by omega), cell_spot hk, spotC, List.getElem?_cons_succ, List.getElem?_cons_zero, Option.getD_some, toI, toS, toB]
  repeat' (first | exact rfl | refine pIfD (fun _ => ?_) (fun _ => ?_) | refine pIf_intro (fun _ => ?_) (fun _ => ?_) | refine And.intro ?_ ?_ | trivial | decide | omega | (refine hX _ _ ?_ ?_ <;> first | (simp_all [big, off, offSpot, offHook]; done) | (simp_all [big, off, offSpot, offHook]; omega)))
theorem e_lim6 (x : Event) (H : HT) (Post : PX) : vcX Tryz.prog callC2 22 [(31, [0, 1, 203, 204])] [(.int .i64 6 :: (eventC x).tail), [.bool false, .bool false]] argsLim H Post = (let t20 := [vs x.nest.sheet, vi x.nest.gap, tree 5 x.nest.spots.length (encL x.nest.spots), vs x.saw.bar, vi x.saw.kerf, Value.slice (some (Addr.mk 2 0 none)) (Int.toNat (↑x.saw.parts.length : Int)) 1, vs x.weig.block, vi x.weig.at_, vi x.weig.mass, vi x.weig.centre.x, vi x.weig.centre.y, vi x.weig.centre.z, vi x.weig.sigma, tree 1 x.weig.parts.length (encL x.weig.parts), vs x.lift.block, tree 4 x.lift.hooks.length (encL x.lift.hooks), vs x.permit.id, vi x.permit.kind, vi x.permit.time.a, vi x.permit.time.b]; let h20 := fun (t : List Value) => vi 6 :: vi x.at_ :: vs x.item :: vs x.of_ :: vs x.by_ :: vi x.n :: vb x.pass :: vs x.order.id :: tree 38 x.order.edits.length (encL x.order.edits) :: vs x.sheet.id :: vs x.sheet.grade :: vi x.sheet.thick :: vi x.sheet.long :: vi x.sheet.width :: vs x.sheet.heat :: vs x.bar.id :: vs x.bar.sect :: vs x.bar.grade :: vi x.bar.long :: vs x.bar.heat :: t; let q2 := (↑x.saw.parts.length : Int); let q7 := zrow (Int.toNat q2) [vz]; let q11 := (2, some (AObj.cells q7 true)); let q10 := 0 ≤ q2 ∧ q2 ≤ q2 ∧ q2 ≤ 2 ^ 25; let q9 := (0, some (AObj.cells (evK 6 x) true)); let q8 := (0, some (AObj.cells (h20 t20) true)); let q6 := [(0, some (pt 0)), (1, some (Value.iface 67 (pt 1))), (203, some (vi q2)), (204, some (vi 0))]; let q5 := [(0, some (pt 0)), (1, some (Value.iface 67 (pt 1))), (203, some (vi (↑(Int.toNat q2) : Int))), (204, some (vi 0))]; let q4 := T2 (True ∧ 1 ≤ 2 ∧ T8 (T2 (pIf (!decide (q2 = q2)) (T2 (q10 ∧ True ∧ 26 ≤ 40 ∧ T8 ((T2 (NLs q7 ∧ True)) ∧ H (lpC Tryz.prog 22 31) (lpK Tryz.prog 22 31) (stV q5 [q8, (1, some (AObj.cells [vb true, vb false] true)), q11] 3)))) (T8 ((T2 (True)) ∧ H (lpC Tryz.prog 22 31) (lpK Tryz.prog 22 31) (stV q6 [q9, (1, some (AObj.cells [vb true, vb false] true))] 2)))))); let q1 := T2 (True ∧ 1 ≤ 2 ∧ T8 (T2 (pIf (!decide (q2 = q2)) (T2 (q10 ∧ True ∧ 26 ≤ 40 ∧ T8 ((T2 (NLs q7 ∧ True)) ∧ H (lpC Tryz.prog 22 31) (lpK Tryz.prog 22 31) (stV q5 [q8, (1, some (AObj.cells [vb true, vb true] true)), q11] 3)))) (T8 ((T2 (True)) ∧ H (lpC Tryz.prog 22 31) (lpK Tryz.prog 22 31) (stV q6 [q9, (1, some (AObj.cells [vb true, vb true] true))] 2)))))); let q3 := True ∧ 2 ≤ 2 ∧ T16 (T8 (T2 (True ∧ pIf (decide (q2 > 24)) q1 (T2 (True ∧ 1 ≤ 2 ∧ T8 (T2 (pIf (!decide (q2 = q2)) (T2 (q10 ∧ True ∧ 26 ≤ 40 ∧ T8 ((T2 (NLs q7 ∧ True)) ∧ H (lpC Tryz.prog 22 31) (lpK Tryz.prog 22 31) (stV q5 [q8, (1, some (AObj.cells [vb false, vb true] true)), q11] 3)))) (T8 ((T2 (True)) ∧ H (lpC Tryz.prog 22 31) (lpK Tryz.prog 22 31) (stV q6 [q9, (1, some (AObj.cells [vb false, vb true] true))] 2)))))))))); T32 (T2 (True ∧ pIf (decide ((↑x.saw.bar.size : Int) > 64)) (T2 (True ∧ 1 ≤ 2 ∧ T8 (T2 (True ∧ (toI (vi 0) ≤ 0 ∧ toI (vi 0) < (↑1 : Int)) ∧ T8 (T4 (T2 (True ∧ pIf (decide (x.saw.kerf < -1099511627776)) (T4 (True ∧ 2 ≤ 2 ∧ T16 (T8 q1))) (T4 (T2 (True ∧ pIf (decide (x.saw.kerf > 1099511627776)) (T2 (True ∧ 2 ≤ 2 ∧ T16 (T8 q1))) (T2 (True ∧ 2 ≤ 2 ∧ T16 (T8 q4))))))))))))) (T2 (True ∧ 1 ≤ 2 ∧ T8 (T2 (True ∧ (toI (vi 0) ≤ 0 ∧ toI (vi 0) < (↑1 : Int)) ∧ T8 (T4 (T2 (True ∧ pIf (decide (x.saw.kerf < -1099511627776)) (T4 q3) (T4 (T2 (True ∧ pIf (decide (x.saw.kerf > 1099511627776)) (T2 q3) (T2 (True ∧ 2 ≤ 2 ∧ T16 (T8 (T2 (True ∧ pIf (decide (q2 > 24)) q4 (T2 (True ∧ 1 ≤ 2 ∧ T8 (T2 (pIf (!decide (q2 = q2)) (T2 (q10 ∧ True ∧ 26 ≤ 40 ∧ T8 ((T2 (NLs q7 ∧ True)) ∧ H (lpC Tryz.prog 22 31) (lpK Tryz.prog 22 31) (stV q5 [q8, (1, some (AObj.cells [vb false, vb false] true)), q11] 3)))) (T8 ((T2 (True)) ∧ H (lpC Tryz.prog 22 31) (lpK Tryz.prog 22 31) (stV q6 [q9, (1, some (AObj.cells [vb false, vb false] true))] 2))))))))))))))))))))))))) := by kernel_rfl
theorem l_lim6 (x : Event) (lg fr : Bool) (i : Int) (H : HT) (Post : PX) : vcLX Tryz.prog callC2 22 argsLim [(31, [0, 1, 203, 204])] 2 31 (stV [(0, some (.pointer (some ⟨0, 0, none⟩))), (1, some (.iface 67 (.pointer (some ⟨1, 0, none⟩)))), (203, some (.int .i64 x.saw.parts.length)), (204, some (.int .i64 i))] [(0, some (.cells (.int .i64 6 :: (eventC x).tail) true)), (1, some (.cells [.bool lg, .bool fr] true))] 2) H Post = (let q2 := [(0, some (pt 0)), (1, some (Value.iface 67 (pt 1))), (203, some (vi (↑x.saw.parts.length : Int))), (204, some (vi (w64 (i + 1))))]; let q1 := (T2 (True)) ∧ H (lpC Tryz.prog 22 31) (lpK Tryz.prog 22 31) (stV q2 [(0, some (AObj.cells (evK 6 x) true)), (1, some (AObj.cells [vb true, vb fr] true))] 2); True ∧ pIf (decide (i < (↑x.saw.parts.length : Int))) (T8 (True ∧ (0 ≤ i ∧ i < (↑x.saw.parts.length : Int)) ∧ T8 (pIf lg (T4 (1 ≤ 2 ∧ T4 q1)) (T2 (True ∧ cellAt (encL x.saw.parts) (Int.toNat i) 0 = vs (toS (cellAt (encL x.saw.parts) (Int.toNat i) 0)) ∧ T2 (pIf (decide ((↑(ByteArray.size (toS (cellAt (encL x.saw.parts) (Int.toNat i) 0))) : Int) > 64)) (T2 (True ∧ 1 ≤ 2 ∧ T4 q1)) (T2 (True ∧ 1 ≤ 2 ∧ T4 ((T2 (True)) ∧ H (lpC Tryz.prog 22 31) (lpK Tryz.prog 22 31) (stV q2 [(0, some (AObj.cells (evK 6 x) true)), (1, some (AObj.cells [vb false, vb fr] true))] 2)))))))))) ((((T32 (T8 (True))) ∧ (T2 (True)) ∧ True) ∧ True) ∧ true = true ∧ Post (Out.ret (Value.tuple #[])) [(evK 6 x), [vb lg, vb fr]])) := by kernel_rfl
theorem lim6 {a : Int} {i o b : ByteArray} {n : Int} {p : Bool} {ord : Order2} {sh : Sheet6} {bar : Bar5} {nest : Nest3} {saw : Saw3} {weig : Weig} {lift : Lift2} {per : Permit3} (hs : saw.parts.length < 2 ^ 62) {Post : Out → List (List Value) → Prop} (hP : Post (.ret (.tuple #[])) [eventC ⟨6, a, i, o, b, n, p, ord, sh, bar, nest, saw, weig, lift, per⟩, [.bool (longK 6 ⟨6, a, i, o, b, n, p, ord, sh, bar, nest, saw, weig, lift, per⟩), .bool (farK 6 ⟨6, a, i, o, b, n, p, ord, sh, bar, nest, saw, weig, lift, per⟩)]]) : SpecX Tryz.prog 22 2 (hpOf [eventC ⟨6, a, i, o, b, n, p, ord, sh, bar, nest, saw, weig, lift, per⟩, [.bool false, .bool false]]) argsLim (xpost 2 Post) := by
 have hF : ∀ lg fr, lg = longK 6 ⟨6, a, i, o, b, n, p, ord, sh, bar, nest, saw, weig, lift, per⟩ → fr = farK 6 ⟨6, a, i, o, b, n, p, ord, sh, bar, nest, saw, weig, lift, per⟩ → Post (.ret (.tuple #[])) [eventC ⟨6, a, i, o, b, n, p, ord, sh, bar, nest, saw, weig, lift, per⟩, [.bool lg, .bool fr]] := by rintro _ _ rfl rfl; exact hP
 have key := down (n := saw.parts.length) (p := fun k => ∀ lg fr, lg = (big saw.bar || decide (24 < saw.parts.length) || (saw.parts.take k).any (big)) → fr = (off saw.kerf) → OkX Tryz.prog 22 argsLim 2 Post (lpC Tryz.prog 22 31) (lpK Tryz.prog 22 31) (stV [(0, some (.pointer (some ⟨0, 0, none⟩))), (1, some (.iface 67 (.pointer (some ⟨1, 0, none⟩)))), (203, some (.int .i64 saw.parts.length)), (204, some (.int .i64 k))] [(0, some (.cells (eventC ⟨6, a, i, o, b, n, p, ord, sh, bar, nest, saw, weig, lift, per⟩) true)), (1, some (.cells [.bool lg, .bool fr] true))] 2)) (fun lg fr hl hf => ?_) (fun k hk ih lg fr hl hf => ?_)
 ·have hX : ∀ lg fr, lg = (big saw.bar || decide (24 < saw.parts.length)) → fr = (off saw.kerf) → OkX Tryz.prog 22 argsLim 2 Post (lpC Tryz.prog 22 31) (lpK Tryz.prog 22 31) (stV [(0, some (.pointer (some ⟨0, 0, none⟩))), (1, some (.iface 67 (.pointer (some ⟨1, 0, none⟩)))), (203, some (.int .i64 saw.parts.length)), (204, some (.int .i64 (0 : Nat)))] [(0, some (.cells (eventC ⟨6, a, i, o, b, n, p, ord, sh, bar, nest, saw, weig, lift, per⟩) true)), (1, some (.cells [.bool lg, .bool fr] true))] 2) := fun lg fr h1 h2 => key lg fr (by rw [h1]; simp) (by rw [h2])
  refine spec_X (conts := [eventC ⟨6, a, i, o, b, n, p, ord, sh, bar, nest, saw, weig, lift, per⟩, [.bool false, .bool false]]) callC2_ok mixed (by kernel_rfl) (by kernel_rfl) [(31, [0, 1, 203, 204])] (e_lim6 ⟨6, a, i, o, b, n, p, ord, sh, bar, nest, saw, weig, lift, per⟩ _ _) ?_
  simp only [true_and, and_true]
  repeat' (first | exact rfl | refine pIfD (fun _ => ?_) (fun _ => ?_) | refine pIfN (fun h => absurd rfl h) (fun _ => ?_) | refine And.intro ?_ ?_ | trivial | decide | (refine hX _ _ ?_ ?_ <;> (simp [longK, farK, big, off]; try omega)))
 ·refine ok_X callC2_ok mixed [(31, [0, 1, 203, 204])] (l_lim6 ⟨6, a, i, o, b, n, p, ord, sh, bar, nest, saw, weig, lift, per⟩ lg fr _ _ _) ?_
  simp only [true_and, and_true]
  refine pIfD (fun hh => absurd hh (by omega)) (fun _ => ?_)
  rw [List.take_of_length_le (Nat.le_refl _)] at hl
  repeat' (first | exact rfl | refine And.intro ?_ ?_ | trivial | decide | exact hF _ _ (by rw [hl]; simp [longK]) (by rw [hf]; simp [farK]))
 ·refine ok_X callC2_ok mixed [(31, [0, 1, 203, 204])] (l_lim6 ⟨6, a, i, o, b, n, p, ord, sh, bar, nest, saw, weig, lift, per⟩ lg fr _ _ _) ?_
  have ek : ((k : Nat) : Int).toNat = k := by omega
  have el : saw.parts[k]? = some saw.parts[k] := List.getElem?_eq_getElem hk
  have hX : ∀ lg' fr', lg' = (lg || (big) saw.parts[k]) → fr' = fr → OkX Tryz.prog 22 argsLim 2 Post (lpC Tryz.prog 22 31) (lpK Tryz.prog 22 31) (stV [(0, some (.pointer (some ⟨0, 0, none⟩))), (1, some (.iface 67 (.pointer (some ⟨1, 0, none⟩)))), (203, some (.int .i64 saw.parts.length)), (204, some (.int .i64 ((k + 1 : Nat) : Int)))] [(0, some (.cells (eventC ⟨6, a, i, o, b, n, p, ord, sh, bar, nest, saw, weig, lift, per⟩) true)), (1, some (.cells [.bool lg', .bool fr'] true))] 2) := fun lg' fr' h1 h2 => ih lg' fr' (by rw [h1, hl, any_take hk]; simp [Bool.or_assoc]) (by rw [h2, hf])
  have hs := hs
  clear ih hP hF hl hf
  simp only [true_and, and_true, ek, wrapSucc (show k < 2 ^ 62 by omega), cell_name hk, List.getElem?_cons_succ, List.getElem?_cons_zero, Option.getD_some, toI, toS, toB]
  repeat' (first | exact rfl | refine pIfD (fun _ => ?_) (fun _ => ?_) | refine pIf_intro (fun _ => ?_) (fun _ => ?_) | refine And.intro ?_ ?_ | trivial | decide | omega | (refine hX _ _ ?_ ?_ <;> first | (simp_all [big, off, offSpot, offHook]; done) | (simp_all [big, off, offSpot, offHook]; omega)))
theorem e_lim14 (x : Event) (H : HT) (Post : PX) : vcX Tryz.prog callC2 22 [(55, [0, 1, 330, 331])] [(.int .i64 14 :: (eventC x).tail), [.bool false, .bool false]] argsLim H Post = (let q3 := (↑x.lift.hooks.length : Int); let q6 := [(0, some (pt 0)), (1, some (Value.iface 67 (pt 1))), (330, some (vi q3)), (331, some (vi 0))]; let q5 := [(0, some (pt 0)), (1, some (Value.iface 67 (pt 1))), (330, some (vi (↑(Int.toNat q3) : Int))), (331, some (vi 0))]; let q4 := zrow (Int.toNat q3) [vz, vi 0, vi 0, vi 0]; let q2 := (0, some (AObj.cells [vi 14, vi x.at_, vs x.item, vs x.of_, vs x.by_, vi x.n, vb x.pass, vs x.order.id, tree 38 x.order.edits.length (encL x.order.edits), vs x.sheet.id, vs x.sheet.grade, vi x.sheet.thick, vi x.sheet.long, vi x.sheet.width, vs x.sheet.heat, vs x.bar.id, vs x.bar.sect, vs x.bar.grade, vi x.bar.long, vs x.bar.heat, vs x.nest.sheet, vi x.nest.gap, tree 5 x.nest.spots.length (encL x.nest.spots), vs x.saw.bar, vi x.saw.kerf, tree 1 x.saw.parts.length (encL x.saw.parts), vs x.weig.block, vi x.weig.at_, vi x.weig.mass, vi x.weig.centre.x, vi x.weig.centre.y, vi x.weig.centre.z, vi x.weig.sigma, tree 1 x.weig.parts.length (encL x.weig.parts), vs x.lift.block, Value.slice (some (Addr.mk 2 0 none)) (Int.toNat q3) 4, vs x.permit.id, vi x.permit.kind, vi x.permit.time.a, vi x.permit.time.b] true)); let q1 := True ∧ 1 ≤ 2 ∧ T8 (T2 (pIf (!decide (q3 = q3)) (T2 ((0 ≤ q3 ∧ q3 ≤ q3 ∧ q3 ≤ 2 ^ 25) ∧ True ∧ 36 ≤ 40 ∧ T8 ((T2 (NLs q4 ∧ True)) ∧ H (lpC Tryz.prog 22 55) (lpK Tryz.prog 22 55) (stV q5 [q2, (1, some (AObj.cells [vb true, vb false] true)), (2, some (AObj.cells q4 true))] 3)))) (T8 ((T2 (True)) ∧ H (lpC Tryz.prog 22 55) (lpK Tryz.prog 22 55) (stV q6 [(0, some (AObj.cells (evK 14 x) true)), (1, some (AObj.cells [vb true, vb false] true))] 2))))); T32 (T16 (T4 (True ∧ pIf (decide ((↑x.lift.block.size : Int) > 64)) (T2 (True ∧ 1 ≤ 2 ∧ T16 (T8 q1))) (T2 (True ∧ 1 ≤ 2 ∧ T16 (T8 (True ∧ pIf (decide (q3 > 2)) (T2 q1) (T2 (True ∧ 1 ≤ 2 ∧ T8 (T2 (pIf (!decide (q3 = q3)) (T2 ((0 ≤ q3 ∧ q3 ≤ q3 ∧ q3 ≤ 2 ^ 25) ∧ True ∧ 36 ≤ 40 ∧ T8 ((T2 (NLs q4 ∧ True)) ∧ H (lpC Tryz.prog 22 55) (lpK Tryz.prog 22 55) (stV q5 [q2, (1, some (AObj.cells [vb false, vb false] true)), (2, some (AObj.cells q4 true))] 3)))) (T8 ((T2 (True)) ∧ H (lpC Tryz.prog 22 55) (lpK Tryz.prog 22 55) (stV q6 [(0, some (AObj.cells (evK 14 x) true)), (1, some (AObj.cells [vb false, vb false] true))] 2))))))))))))))) := by kernel_rfl
theorem l_lim14 (x : Event) (lg fr : Bool) (i : Int) (H : HT) (Post : PX) : vcLX Tryz.prog callC2 22 argsLim [(55, [0, 1, 330, 331])] 2 55 (stV [(0, some (.pointer (some ⟨0, 0, none⟩))), (1, some (.iface 67 (.pointer (some ⟨1, 0, none⟩)))), (330, some (.int .i64 x.lift.hooks.length)), (331, some (.int .i64 i))] [(0, some (.cells (.int .i64 14 :: (eventC x).tail) true)), (1, some (.cells [.bool lg, .bool fr] true))] 2) H Post = (let q12 := (0, some (AObj.cells (evK 14 x) true)); let q11 := (toI (vi 0) ≤ w64 (w64 (0 + 1) + 1) ∧ toI (vi (w64 (w64 (0 + 1) + 1))) < (↑3 : Int)); let q10 := cellAt (encL x.lift.hooks) (Int.toNat i) 3; let q9 := cellAt (encL x.lift.hooks) (Int.toNat i) 2; let q8 := cellAt (encL x.lift.hooks) (Int.toNat i) 1; let q2 := [(0, some (pt 0)), (1, some (Value.iface 67 (pt 1))), (330, some (vi (↑x.lift.hooks.length : Int))), (331, some (vi (w64 (i + 1))))]; let q7 := True ∧ 2 ≤ 2 ∧ T4 (T2 (True ∧ (T2 (True)) ∧ H (lpC Tryz.prog 22 55) (lpK Tryz.prog 22 55) (stV q2 [q12, (1, some (AObj.cells [vb true, vb true] true))] 2))); let q6 := True ∧ 2 ≤ 2 ∧ T4 (T2 (True ∧ (T2 (True)) ∧ H (lpC Tryz.prog 22 55) (lpK Tryz.prog 22 55) (stV q2 [q12, (1, some (AObj.cells [vb false, vb true] true))] 2))); let q5 := (toI (vi 0) ≤ w64 (0 + 1) ∧ toI (vi (w64 (0 + 1))) < (↑3 : Int)); let q4 := True ∧ 2 ≤ 2 ∧ T2 (True ∧ q11 ∧ T8 (T4 (T2 q7))); let q3 := True ∧ 2 ≤ 2 ∧ T2 (True ∧ q11 ∧ T8 (T4 (T2 q6))); let q1 := (T2 ((toI (vi 0) ≤ 0 ∧ toI (vi 0) < (↑3 : Int)) ∧ T8 (True ∧ pIf fr (T4 (T2 (2 ≤ 2 ∧ T2 (True ∧ q5 ∧ T8 (T4 (T2 q4)))))) (T2 (True ∧ cellAt (encL x.lift.hooks) (Int.toNat i) 1 = vi (toI q8) ∧ T2 (pIf (decide (toI q8 < -1099511627776)) (T4 (True ∧ 2 ≤ 2 ∧ T2 (True ∧ q5 ∧ T8 (T4 (T2 q4))))) (T4 (cellAt (encL x.lift.hooks) (Int.toNat i) 1 = vi (toI q8) ∧ T2 (pIf (decide (toI q8 > 1099511627776)) (T2 (True ∧ 2 ≤ 2 ∧ T2 (True ∧ q5 ∧ T8 (T4 (T2 q4))))) (T2 (True ∧ 2 ≤ 2 ∧ T2 (True ∧ q5 ∧ T8 (T4 (cellAt (encL x.lift.hooks) (Int.toNat i) 2 = vi (toI q9) ∧ T2 (pIf (decide (toI q9 < -1099511627776)) (T4 q4) (T4 (cellAt (encL x.lift.hooks) (Int.toNat i) 2 = vi (toI q9) ∧ T2 (pIf (decide (toI q9 > 1099511627776)) (T2 q4) (T2 (True ∧ 2 ≤ 2 ∧ T2 (True ∧ q11 ∧ T8 (T4 (cellAt (encL x.lift.hooks) (Int.toNat i) 3 = vi (toI q10) ∧ T2 (pIf (decide (toI q10 < -1099511627776)) (T4 q7) (T4 (cellAt (encL x.lift.hooks) (Int.toNat i) 3 = vi (toI q10) ∧ T2 (pIf (decide (toI q10 > 1099511627776)) (T2 q7) (T2 (True ∧ 2 ≤ 2 ∧ T4 (T2 (True ∧ (T2 (True)) ∧ H (lpC Tryz.prog 22 55) (lpK Tryz.prog 22 55) (stV q2 [q12, (1, some (AObj.cells [vb true, vb false] true))] 2)))))))))))))))))))))))))))))))); True ∧ pIf (decide (i < (↑x.lift.hooks.length : Int))) (T8 ((0 ≤ i ∧ i < (↑x.lift.hooks.length : Int)) ∧ T8 (T4 (True ∧ pIf lg (T4 (1 ≤ 2 ∧ T16 q1)) (T2 (True ∧ cellAt (encL x.lift.hooks) (Int.toNat i) 0 = vs (toS (cellAt (encL x.lift.hooks) (Int.toNat i) 0)) ∧ T2 (pIf (decide ((↑(ByteArray.size (toS (cellAt (encL x.lift.hooks) (Int.toNat i) 0))) : Int) > 64)) (T2 (True ∧ 1 ≤ 2 ∧ T16 q1)) (T2 (True ∧ 1 ≤ 2 ∧ T16 (T2 ((toI (vi 0) ≤ 0 ∧ toI (vi 0) < (↑3 : Int)) ∧ T8 (True ∧ pIf fr (T4 (T2 (2 ≤ 2 ∧ T2 (True ∧ q5 ∧ T8 (T4 (T2 q3)))))) (T2 (True ∧ cellAt (encL x.lift.hooks) (Int.toNat i) 1 = vi (toI q8) ∧ T2 (pIf (decide (toI q8 < -1099511627776)) (T4 (True ∧ 2 ≤ 2 ∧ T2 (True ∧ q5 ∧ T8 (T4 (T2 q3))))) (T4 (cellAt (encL x.lift.hooks) (Int.toNat i) 1 = vi (toI q8) ∧ T2 (pIf (decide (toI q8 > 1099511627776)) (T2 (True ∧ 2 ≤ 2 ∧ T2 (True ∧ q5 ∧ T8 (T4 (T2 q3))))) (T2 (True ∧ 2 ≤ 2 ∧ T2 (True ∧ q5 ∧ T8 (T4 (cellAt (encL x.lift.hooks) (Int.toNat i) 2 = vi (toI q9) ∧ T2 (pIf (decide (toI q9 < -1099511627776)) (T4 q3) (T4 (cellAt (encL x.lift.hooks) (Int.toNat i) 2 = vi (toI q9) ∧ T2 (pIf (decide (toI q9 > 1099511627776)) (T2 q3) (T2 (True ∧ 2 ≤ 2 ∧ T2 (True ∧ q11 ∧ T8 (T4 (cellAt (encL x.lift.hooks) (Int.toNat i) 3 = vi (toI q10) ∧ T2 (pIf (decide (toI q10 < -1099511627776)) (T4 q6) (T4 (cellAt (encL x.lift.hooks) (Int.toNat i) 3 = vi (toI q10) ∧ T2 (pIf (decide (toI q10 > 1099511627776)) (T2 q6) (T2 (True ∧ 2 ≤ 2 ∧ T4 (T2 (True ∧ (T2 (True)) ∧ H (lpC Tryz.prog 22 55) (lpK Tryz.prog 22 55) (stV q2 [q12, (1, some (AObj.cells [vb false, vb false] true))] 2))))))))))))))))))))))))))))))))))))))))) ((((T32 (T8 (True))) ∧ (T2 (True)) ∧ True) ∧ True) ∧ true = true ∧ Post (Out.ret (Value.tuple #[])) [(evK 14 x), [vb lg, vb fr]])) := by kernel_rfl
theorem lim14 {a : Int} {i o b : ByteArray} {n : Int} {p : Bool} {ord : Order2} {sh : Sheet6} {bar : Bar5} {nest : Nest3} {saw : Saw3} {weig : Weig} {lift : Lift2} {per : Permit3} (hs : lift.hooks.length < 2 ^ 62) {Post : Out → List (List Value) → Prop} (hP : Post (.ret (.tuple #[])) [eventC ⟨14, a, i, o, b, n, p, ord, sh, bar, nest, saw, weig, lift, per⟩, [.bool (longK 14 ⟨14, a, i, o, b, n, p, ord, sh, bar, nest, saw, weig, lift, per⟩), .bool (farK 14 ⟨14, a, i, o, b, n, p, ord, sh, bar, nest, saw, weig, lift, per⟩)]]) : SpecX Tryz.prog 22 2 (hpOf [eventC ⟨14, a, i, o, b, n, p, ord, sh, bar, nest, saw, weig, lift, per⟩, [.bool false, .bool false]]) argsLim (xpost 2 Post) := by
 have hF : ∀ lg fr, lg = longK 14 ⟨14, a, i, o, b, n, p, ord, sh, bar, nest, saw, weig, lift, per⟩ → fr = farK 14 ⟨14, a, i, o, b, n, p, ord, sh, bar, nest, saw, weig, lift, per⟩ → Post (.ret (.tuple #[])) [eventC ⟨14, a, i, o, b, n, p, ord, sh, bar, nest, saw, weig, lift, per⟩, [.bool lg, .bool fr]] := by rintro _ _ rfl rfl; exact hP
 have key := down (n := lift.hooks.length) (p := fun k => ∀ lg fr, lg = (big lift.block || decide (2 < lift.hooks.length) || (lift.hooks.take k).any (fun h => big h.crane)) → fr = (false || (lift.hooks.take k).any offHook) → OkX Tryz.prog 22 argsLim 2 Post (lpC Tryz.prog 22 55) (lpK Tryz.prog 22 55) (stV [(0, some (.pointer (some ⟨0, 0, none⟩))), (1, some (.iface 67 (.pointer (some ⟨1, 0, none⟩)))), (330, some (.int .i64 lift.hooks.length)), (331, some (.int .i64 k))] [(0, some (.cells (eventC ⟨14, a, i, o, b, n, p, ord, sh, bar, nest, saw, weig, lift, per⟩) true)), (1, some (.cells [.bool lg, .bool fr] true))] 2)) (fun lg fr hl hf => ?_) (fun k hk ih lg fr hl hf => ?_)
 ·have hX : ∀ lg fr, lg = (big lift.block || decide (2 < lift.hooks.length)) → fr = (false) → OkX Tryz.prog 22 argsLim 2 Post (lpC Tryz.prog 22 55) (lpK Tryz.prog 22 55) (stV [(0, some (.pointer (some ⟨0, 0, none⟩))), (1, some (.iface 67 (.pointer (some ⟨1, 0, none⟩)))), (330, some (.int .i64 lift.hooks.length)), (331, some (.int .i64 (0 : Nat)))] [(0, some (.cells (eventC ⟨14, a, i, o, b, n, p, ord, sh, bar, nest, saw, weig, lift, per⟩) true)), (1, some (.cells [.bool lg, .bool fr] true))] 2) := fun lg fr h1 h2 => key lg fr (by rw [h1]; simp) (by rw [h2]; simp)
  refine spec_X (conts := [eventC ⟨14, a, i, o, b, n, p, ord, sh, bar, nest, saw, weig, lift, per⟩, [.bool false, .bool false]]) callC2_ok mixed (by kernel_rfl) (by kernel_rfl) [(55, [0, 1, 330, 331])] (e_lim14 ⟨14, a, i, o, b, n, p, ord, sh, bar, nest, saw, weig, lift, per⟩ _ _) ?_
  simp only [true_and, and_true]
  repeat' (first | exact rfl | refine pIfD (fun _ => ?_) (fun _ => ?_) | refine pIfN (fun h => absurd rfl h) (fun _ => ?_) | refine And.intro ?_ ?_ | trivial | decide | (refine hX _ _ ?_ ?_ <;> (simp [longK, farK, big, off]; try omega)))
 ·refine ok_X callC2_ok mixed [(55, [0, 1, 330, 331])] (l_lim14 ⟨14, a, i, o, b, n, p, ord, sh, bar, nest, saw, weig, lift, per⟩ lg fr _ _ _) ?_
  simp only [true_and, and_true]
  refine pIfD (fun hh => absurd hh (by omega)) (fun _ => ?_)
  rw [List.take_of_length_le (Nat.le_refl _)] at hl hf
  repeat' (first | exact rfl | refine And.intro ?_ ?_ | trivial | decide | exact hF _ _ (by rw [hl]; simp [longK]) (by rw [hf]; simp [farK]))
 ·refine ok_X callC2_ok mixed [(55, [0, 1, 330, 331])] (l_lim14 ⟨14, a, i, o, b, n, p, ord, sh, bar, nest, saw, weig, lift, per⟩ lg fr _ _ _) ?_
  have ek : ((k : Nat) : Int).toNat = k := by omega
  have el : lift.hooks[k]? = some lift.hooks[k] := List.getElem?_eq_getElem hk
  have hX : ∀ lg' fr', lg' = (lg || (fun h => big h.crane) lift.hooks[k]) → fr' = (fr || offHook lift.hooks[k]) → OkX Tryz.prog 22 argsLim 2 Post (lpC Tryz.prog 22 55) (lpK Tryz.prog 22 55) (stV [(0, some (.pointer (some ⟨0, 0, none⟩))), (1, some (.iface 67 (.pointer (some ⟨1, 0, none⟩)))), (330, some (.int .i64 lift.hooks.length)), (331, some (.int .i64 ((k + 1 : Nat) : Int)))] [(0, some (.cells (eventC ⟨14, a, i, o, b, n, p, ord, sh, bar, nest, saw, weig, lift, per⟩) true)), (1, some (.cells [.bool lg', .bool fr'] true))] 2) := fun lg' fr' h1 h2 => ih lg' fr' (by rw [h1, hl, any_take hk]; simp [Bool.or_assoc]) (by rw [h2, hf, any_take hk]; simp [Bool.or_assoc])
  have hs := hs
  clear ih hP hF hl hf
  simp only [true_and, and_true, ek, wrapSucc (show k < 2 ^ 62 by omega), cell_hook hk, hook4C, List.getElem?_cons_succ, List.getElem?_cons_zero, Option.getD_some, toI, toS, toB]
  repeat' (first | exact rfl | refine pIfD (fun _ => ?_) (fun _ => ?_) | refine pIf_intro (fun _ => ?_) (fun _ => ?_) | refine And.intro ?_ ?_ | trivial | decide | omega | (refine hX _ _ ?_ ?_ <;> first | (simp_all [big, off, offSpot, offHook]; done) | (simp_all [big, off, offSpot, offHook]; omega)))
theorem lim_spec {x : Event} (h1 : 1 ≤ x.kind) (h2 : x.kind ≤ 18) (hs : ShortEv x) {Post : Out → List (List Value) → Prop} (hP : Post (.ret (.tuple #[])) [eventC x, [.bool (longK x.kind x), .bool (farK x.kind x)]]) : SpecX Tryz.prog 22 2 (hpOf [eventC x, [.bool false, .bool false]]) argsLim (xpost 2 Post) := by
 have hk := kinds h1 h2
 obtain ⟨k, a, i, o, b, n, p, ord, sh, bar, nest, saw, weig, lift, per⟩ := x
 simp only at hk h1
 rcases hk with rfl | rfl | rfl | rfl | rfl | rfl | rfl | rfl | rfl | rfl | rfl | rfl | rfl | rfl | rfl | rfl | rfl | rfl
 ·exact lim1 hP
 ·exact lim2 hP
 ·exact lim3 hP
 ·exact lim4 hP
 ·exact lim5 hs.spots hP
 ·exact lim6 hs.saw hP
 ·exact lim7 hP
 ·exact lim8 hP
 ·exact lim9 hP
 ·exact lim10 hP
 ·exact lim11 hP
 ·exact lim12 hP
 ·exact lim13 hP
 ·exact lim14 hs.hooks hP
 ·exact lim15 hP
 ·exact lim16 hP
 ·exact lim17 hP
 ·exact lim18 hP
def c_vis (args : List Value) (conts : List (List Value)) (Post : Out → List (List Value) → Prop) : Prop :=
 ∃ x : Event, args = argsLim ∧ conts = [eventC x, [.bool false, .bool false]] ∧ 1 ≤ x.kind ∧ x.kind ≤ 18 ∧ ShortEv x ∧ Post (.ret (.tuple #[])) [eventC x, [.bool (longK x.kind x), .bool (farK x.kind x)]]
theorem ok_vis : XEntOk Tryz.prog ⟨22, c_vis⟩ := by
 rintro args conts Post ⟨x, rfl, rfl, h1, h2, hs, hP⟩
 exact lim_spec h1 h2 hs hP
def tabCk : List Ent := [⟨12, c_nm⟩, ⟨20, c_plain⟩, ⟨21, c_named⟩]
def callCk : PCall := xtabCall [⟨22, c_vis⟩] (tabFr Tryz.prog tabCk noP)
theorem callCk_ok : PCallOk Tryz.prog callCk := xtabCall_ok (by
 intro e he
 simp only [List.mem_cons, List.not_mem_nil, or_false] at he
 subst he
 exact ok_vis) (tabFr_ok (by
 intro e he
 simp only [tabCk, List.mem_cons, List.not_mem_nil, or_false] at he
 rcases he with rfl | rfl | rfl
 ·exact ok_nm
 ·exact ok_plain
 ·exact ok_named) noP_ok)
theorem e_check (x : Event) (H : HT) (Post : PX) : vcX Tryz.prog callCk 10 [] [] [eventV x] H Post = (T4 ((True ∧ True) ∧ ∃ (k : Int), eqL [vi x.kind] [vi k] ∧ True ∧ pIf (decide (nameOf k = ByteArray.mk #[])) (T2 ((True ∧ True) ∧ true = true ∧ Post (Out.ret (vi 10)) [])) (T4 (pIf (decide (x.at_ < 0)) (T4 ((True ∧ True) ∧ true = true ∧ Post (Out.ret (vi 15)) [])) (T4 (pIf (decide (x.at_ > 1048576)) (T2 (True ∧ (True ∧ True) ∧ true = true ∧ Post (Out.ret (vi 15)) [])) (T2 (True ∧ ((T32 (T8 (True))) ∧ True) ∧ ∃ (x_1 : Event), eqL [Value.agg (evK x.kind x).toArray] [eventV x_1] ∧ 1 ≤ x_1.kind ∧ x_1.kind ≤ 18 ∧ ShortEv x_1 ∧ InOrder x_1.order ∧ FewO x_1.order ∧ pIf (decide (x_1 = plainK x_1.kind x_1)) (T2 (True ∧ ((T32 (T8 (True))) ∧ True) ∧ ∃ (x_2 : Event), eqL [Value.agg (evK x.kind x).toArray] [eventV x_2] ∧ x_2.item.size < 16777000 ∧ pIf (decide (namedOk x_2)) (T4 (∃ (x_3 : Event), eqL [pt 0, Value.iface 67 (pt 1)] [pt 0, Value.iface 67 (pt 1)] ∧ [(evK x.kind x), [vb false, vb false]] = [(evK x_3.kind x_3), [vb false, vb false]] ∧ 1 ≤ x_3.kind ∧ x_3.kind ≤ 18 ∧ ShortEv x_3 ∧ 2 = 2 ∧ T2 (pIf (longK x_3.kind x_3) (T2 ((True ∧ True) ∧ true = true ∧ Post (Out.ret (vi 4)) [])) (T2 (True ∧ pIf (farK x_3.kind x_3) (T2 ((True ∧ True) ∧ true = true ∧ Post (Out.ret (vi 9)) [])) (T2 ((True ∧ True) ∧ true = true ∧ Post (Out.ret (vi 0)) []))))))) (T2 (True ∧ (True ∧ True) ∧ true = true ∧ Post (Out.ret (vi 6)) [])))) (T2 (True ∧ (True ∧ True) ∧ true = true ∧ Post (Out.ret (vi 2)) [])))))))))) := by kernel_rfl
theorem nameOf_nil {k : Int} : nameOf k = ⟨#[]⟩ ↔ ¬ (1 ≤ k ∧ k ≤ 18) := by
 constructor
 ·intro h hk
  rcases kinds hk.1 hk.2 with rfl | rfl | rfl | rfl | rfl | rfl | rfl | rfl | rfl | rfl | rfl | rfl | rfl | rfl | rfl | rfl | rfl | rfl
  all_goals exact absurd h (by decide)
 ·intro h
  by_cases hn : k < 0
  ·exact nameOf_big (.inl hn)
  ·by_cases h19 : k < 19
   ·obtain rfl : k = 0 := by omega
    rfl
   ·exact nameOf_big (.inr (by omega))
def checkE (x : Event) : Int :=
 if ¬ (1 ≤ x.kind ∧ x.kind ≤ 18) then 10
 else if x.at_ < 0 ∨ 1048576 < x.at_ then 15
 else if ¬ x = plainK x.kind x then 2
 else if ¬ namedOk x then 6
 else if longK x.kind x = true then 4
 else if farK x.kind x = true then 9
 else 0
def c_check (args : List Value) (Post : Value → Prop) : Prop := ∃ x : Event, args = [eventV x] ∧ ShortEv x ∧ InOrder x.order ∧ FewO x.order ∧ x.item.size < 16777000 ∧ Post (.int .i64 (checkE x))
theorem ok_check : EntOk Tryz.prog ⟨10, c_check⟩ := by
 rintro args Post ⟨x, rfl, hs, hi, hf, hz, h⟩
 refine B.pure_of_X ?_
 refine spec_X (conts := []) callCk_ok mixed (by kernel_rfl) (by kernel_rfl) [] (e_check x _ _) ?_
 have hE : ∀ v, checkE x = v → B.retV Post (.ret (.int .i64 v)) [] := fun v e => by subst e; exact h
 simp only [true_and, and_true]
 refine ⟨x.kind, rfl, pIfD (fun hk => hE _ ?_) (fun hk => ?_)⟩
 ·unfold checkE; rw [if_pos (nameOf_nil.1 hk)]
 have hk : 1 ≤ x.kind ∧ x.kind ≤ 18 := by
  rcases Decidable.em (1 ≤ x.kind ∧ x.kind ≤ 18) with h' | h'
  ·exact h'
  ·exact absurd (nameOf_nil.2 h') hk
 refine pIfD (fun ha => hE _ ?_) (fun ha => pIfD (fun ha2 => hE _ ?_) (fun ha2 => ?_))
 ·unfold checkE; rw [if_neg (by simpa using hk), if_pos (.inl ha)]
 ·unfold checkE; rw [if_neg (by simpa using hk), if_pos (.inr ha2)]
 have ha' : ¬ (x.at_ < 0 ∨ 1048576 < x.at_) := by omega
 refine ⟨x, rfl, hk.1, hk.2, hs, hi, hf, pIfD (fun hp => ?_) (fun hp => hE _ ?_)⟩
 case refine_2 => unfold checkE; rw [if_neg (by simpa using hk), if_neg ha', if_pos hp]
 refine ⟨x, rfl, hz, pIfD (fun hn => ?_) (fun hn => hE _ ?_)⟩
 case refine_2 => unfold checkE; rw [if_neg (by simpa using hk), if_neg ha', if_neg (by simpa using hp), if_pos hn]
 refine ⟨x, rfl, hk.1, hk.2, hs, pIf_intro (fun hl => hE _ ?_) (fun hl => ?_)⟩
 ·unfold checkE; rw [if_neg (by simpa using hk), if_neg ha', if_neg (by simpa using hp), if_neg (by simpa using hn), if_pos hl]
 refine pIf_intro (fun hr => hE _ ?_) (fun hr => hE _ ?_)
 ·unfold checkE; rw [if_neg (by simpa using hk), if_neg ha', if_neg (by simpa using hp), if_neg (by simpa using hn), if_neg (by simp [hl]), if_pos hr]
 ·unfold checkE; rw [if_neg (by simpa using hk), if_neg ha', if_neg (by simpa using hp), if_neg (by simpa using hn), if_neg (by simp [hl]), if_neg (by simp [hr])]
def callEv3 : PCall := inlP Tryz.prog [63, 79, 80, 64, 81] (xtabCall [⟨22, c_vr2⟩] (ofV (itabCall tabRd noCall))) 5
def callDf : PCall := inlP Tryz.prog [36] (inlD Tryz.prog [37] callEv3 (tabFr Tryz.prog [⟨10, c_check⟩] noP)) 2
theorem e_decF (s : ByteArray) (H : HT) (Post : PX) : vcX Tryz.prog callDf 16 [] [] [.string s] H Post = (let t36 := [vz, vi 0, vi 0, vi 0]; let t20 := vz :: vi 0 :: tree 5 0 #[] :: vz :: vi 0 :: tree 1 0 #[] :: vz :: vi 0 :: vi 0 :: vi 0 :: vi 0 :: vi 0 :: vi 0 :: tree 1 0 #[] :: vz :: tree 4 0 #[] :: t36; let h20 := fun (t : List Value) => vi 0 :: vi 0 :: vz :: vz :: vz :: vi 0 :: vb false :: vz :: tree 38 0 #[] :: vz :: vz :: vi 0 :: vi 0 :: vi 0 :: vz :: vz :: vz :: vz :: vi 0 :: vz :: t; let q1 := True ∧ (T32 (T8 (True))) ∧ True ∧ True; T16 (T8 (True ∧ true = true ∧ s.size < 4611686018427387904 ∧ (∀ (v : Int) (r : ByteArray), rsI 1 18 s = Rs.ok v r → 1 = 1 ∧ True ∧ 1 ≤ 40 ∧ T16 (T8 (T2 (true = true ∧ r.size < 4611686018427387904 ∧ (∀ (v_1 : Int) (r_1 : ByteArray), rsI 0 1048576 r = Rs.ok v_1 r_1 → 1 = 1 ∧ True ∧ 2 ≤ 40 ∧ T16 (T2 (True ∧ ∃ (k : Int), ∃ (a : Int), ∃ (w : Int), ∃ (s : ByteArray), eqL [pt 0, Value.iface 88 (pt 1)] [pt 0, Value.iface 88 (pt 1)] ∧ [(vi v :: vi v_1 :: vz :: vz :: vz :: vi 0 :: vb false :: vz :: nS :: vz :: vz :: vi 0 :: vi 0 :: vi 0 :: vz :: vz :: vz :: vz :: vi 0 :: vz :: vz :: vi 0 :: nS :: vz :: vi 0 :: nS :: vz :: vi 0 :: vi 0 :: vi 0 :: vi 0 :: vi 0 :: vi 0 :: nS :: vz :: nS :: t36), [pt 2, vi 0], [vs r_1, vi 0]] = [(vi k :: vi a :: vz :: vz :: vz :: vi 0 :: vb false :: vz :: nS :: vz :: vz :: vi 0 :: vi 0 :: vi 0 :: vz :: vz :: vz :: vz :: vi 0 :: vz :: vz :: vi 0 :: nS :: vz :: vi 0 :: nS :: vz :: vi 0 :: vi 0 :: vi 0 :: vi 0 :: vi 0 :: vi 0 :: nS :: vz :: nS :: t36), [pt 2, vi w], [vs s, vi 0]] ∧ 1 ≤ k ∧ k ≤ 18 ∧ s.size < 4611686018427387904 ∧ (∀ (x : Event) (v : Int) (r : ByteArray), VisR k a w s x v r → 3 = 3 ∧ T16 (T8 (T4 (T2 (True ∧ pIf (decide ((↑r.size : Int) > 0)) (T8 (T4 (T2 (40 ≤ 40 ∧ 1 ≤ 1 ∧ T4 (40 ≤ 40 ∧ T4 (T2 (True ∧ 40 ≤ 40 ∧ True ∧ q1 ∧ true = true ∧ Post (Out.ret (Value.tuple #[Value.agg (h20 t20).toArray, vi 4])) []))))))) (T8 (T2 (True ∧ 40 ≤ 40 ∧ True ∧ 1 ≤ 1 ∧ T4 (T2 (True ∧ 40 ≤ 40 ∧ T2 (True ∧ pIf (decide (v = 0)) (True ∧ ((T32 (T8 (True))) ∧ True) ∧ ∃ (x_1 : Event), eqL [Value.agg (evK x.kind x).toArray] [eventV x_1] ∧ ShortEv x_1 ∧ InOrder x_1.order ∧ FewO x_1.order ∧ x_1.item.size < 16777000 ∧ T2 (True ∧ pIf (!decide (checkE x_1 = 0)) (T2 (40 ≤ 40 ∧ True ∧ q1 ∧ true = true ∧ Post (Out.ret (Value.tuple #[Value.agg (h20 t20).toArray, vi (checkE x_1)])) [])) (True ∧ 40 ≤ 40 ∧ True ∧ q1 ∧ true = true ∧ Post (Out.ret (Value.tuple #[Value.agg (evK x.kind x).toArray, vi 0])) []))) (T2 (pIf (!decide (v = 0)) (T2 (40 ≤ 40 ∧ True ∧ q1 ∧ true = true ∧ Post (Out.ret (Value.tuple #[Value.agg (h20 t20).toArray, vi v])) [])) (True ∧ 40 ≤ 40 ∧ True ∧ q1 ∧ true = true ∧ Post (Out.ret (Value.tuple #[Value.agg (evK x.kind x).toArray, vi 0])) [])))))))))))))) ∧ ∀ (e : Nat), rdX k s = Rs.err e → ∀ (r : ByteArray) (v v v v v v v v v v v v v v v v v v v v v v v v v v v v v v v v v v v v v v v v : Value), 3 = 3 ∧ T4 (T2 (True ∧ 40 ≤ 40 ∧ 1 ≤ 1 ∧ T4 (40 ≤ 40 ∧ T4 (T2 (True ∧ 40 ≤ 40 ∧ True ∧ q1 ∧ true = true ∧ Post (Out.ret (Value.tuple #[Value.agg (h20 t20).toArray, vi (Int.ofNat (e + 1))])) [])))))))) ∧ ∀ (e : Nat), rsI 0 1048576 r = Rs.err e → 1 = 1 ∧ True ∧ 2 ≤ 40 ∧ T16 (T8 (T2 (40 ≤ 40 ∧ 1 ≤ 1 ∧ T4 (40 ≤ 40 ∧ T4 (T2 (True ∧ 40 ≤ 40 ∧ True ∧ q1 ∧ true = true ∧ Post (Out.ret (Value.tuple #[Value.agg (h20 t20).toArray, vi (Int.ofNat (e + 1))])) [])))))))))) ∧ ∀ (e : Nat), rsI 1 18 s = Rs.err e → 1 = 1 ∧ True ∧ 1 ≤ 40 ∧ T16 (T8 (T2 (40 ≤ 40 ∧ 1 ≤ 1 ∧ T4 (40 ≤ 40 ∧ T4 (T2 (True ∧ 40 ≤ 40 ∧ True ∧ q1 ∧ true = true ∧ Post (Out.ret (Value.tuple #[Value.agg (h20 t20).toArray, vi (Int.ofNat (e + 1))])) []))))))))) := by kernel_rfl
theorem gtT {m : Nat} {s v r : ByteArray} (h : rsT m s = .ok v r) : s = bText v ++ r := by
 obtain ⟨h0, rfl, rfl⟩ := mkRs_ok h
 exact (yText.1.ok h0).2
theorem gtI {lo hi v : Int} (hl : -9223372036854775808 ≤ lo) (hh : hi ≤ 9223372036854775807) {s r : ByteArray} (h : rsI lo hi s = .ok v r) : s = bInt v ++ r := by
 obtain ⟨h0, rfl, rfl⟩ := mkRs_ok h
 exact ((yInt hl hh).1.ok h0).2
theorem gtL {m n : Nat} {s r : ByteArray} (h : rsL m s = .ok n r) : s = bList n ++ r := by
 obtain ⟨h0, rfl, rfl⟩ := mkRs_ok h
 exact (yHead.ok h0).2
theorem byte_cut {s : ByteArray} (h : ¬ s.size = 0) : s = (⟨#[byte0 s]⟩ : ByteArray) ++ s.extract 1 s.size := by
 refine ba_ext ?_
 rw [app_list, ext_list]
 unfold byte0
 have hs := size_list s
 rw [hs] at h ⊢
 rw [Array.getD_eq_getD_getElem?, ← Array.getElem?_toList]
 generalize s.data.toList = l at h ⊢
 cases l with
 | nil => exact absurd rfl h
 | cons b l => simp
theorem gtB {b : Bool} {s r : ByteArray} (h : rsB s = .ok b r) : s = bBool b ++ r := by
 unfold rsB at h
 split at h
 ·cases h
 rename_i h0
 have e := byte_cut h0
 split at h
 ·rename_i h1
  cases h
  rw [h1] at e
  exact e
 split at h
 ·rename_i h1
  cases h
  rw [h1] at e
  exact e
 ·cases h
theorem gtF {f : Fd} (hf : okF f) {v : Va} {s r : ByteArray} (h : rdF f s = .ok v r) : s = bVa v ++ r := by
 cases f <;> simp only [rdF, Rs.bind] at h <;> split at h <;> cases h
 ·exact gtT (by assumption)
 ·simp only [okF] at hf
  rename_i h1
  exact gtI (by omega) (by omega) h1
 ·exact gtB (by assumption)
theorem gtFs : ∀ {fs : List Fd} {vs : List Va} {s r : ByteArray}, (∀ f ∈ fs, okF f) → rdFs fs s = .ok vs r → s = bVs vs ++ r
 | [], vs, s, r, _, h => by simp only [rdFs] at h; cases h; rw [bVs, ba_nil]
 | f :: fs, vs, s, r, hf, h => by
  simp only [rdFs, Rs.bind] at h
  split at h
  ·rename_i v r1 h1
   split at h
   ·rename_i vs1 r2 h2
    cases h
    rw [bVs, ba_assoc, ← gtFs (fun g hg => hf g (by simp [hg])) h2]
    exact gtF (hf f (by simp)) h1
   ·cases h
  ·cases h
theorem gtEs {fs : List Fd} (hf : ∀ f ∈ fs, okF f) : ∀ {n : Nat} {es : List (List Va)} {s r : ByteArray}, rdEs fs n s = .ok es r → s = bEs es ++ r
 | 0, es, s, r, h => by simp only [rdEs] at h; cases h; rw [bEs, ba_nil]
 | n + 1, es, s, r, h => by
  simp only [rdEs, Rs.bind] at h
  split at h
  ·rename_i v r1 h1
   split at h
   ·rename_i vs1 r2 h2
    cases h
    rw [bEs, ba_assoc, ← gtEs hf h2]
    exact gtFs hf h1
   ·cases h
  ·cases h
def bLe (k : Nat) (es : List (List Va)) : ByteArray := match shE k with
 | none => ⟨#[]⟩
 | some _ => bList es.length ++ bEs es
theorem gtBody {k : Nat} {s r : ByteArray} {vs : List Va} {es : List (List Va)} (h : rdBody k s = .ok (vs, es) r) : s = bVs vs ++ bLe k es ++ r := by
 unfold rdBody Rs.bind at h
 split at h
 case h_2 => cases h
 rename_i vs1 r1 h1
 dsimp only at h
 split at h
 case h_2 => cases h
 rename_i es1 r2 h2
 cases h
 have e1 := gtFs (shN_ok k) h1
 suffices r1 = bLe k es ++ r by rw [e1, this, ba_assoc]
 unfold rdLs Rs.bind at h2
 unfold bLe
 split at h2
 ·rename_i hE
  cases h2
  rw [hE, ba_nil]
 ·rename_i m fs hE
  split at h2
  case h_2 => cases h2
  rename_i n r3 h3
  rw [hE]
  dsimp only
  rw [(ftEs h2).1, ba_assoc, ← gtEs (shE_ok hE).1 h2]
  exact gtL h3
theorem fits_nil {vs : List Va} (h : fits [] vs) : vs = [] := by
 cases vs with
 | nil => rfl
 | cons _ _ => exact h.elim
theorem fits_t {fs : List Fd} {vs : List Va} (h : fits (.t :: fs) vs) : ∃ x l, vs = .s x :: l ∧ fits fs l := by
 match vs, h with
 | .s x :: l, h => exact ⟨x, l, rfl, h.2⟩
theorem fits_n {lo hi : Int} {fs : List Fd} {vs : List Va} (h : fits (.n lo hi :: fs) vs) : ∃ x l, vs = .i x :: l ∧ fits fs l := by
 match vs, h with
 | .i x :: l, h => exact ⟨x, l, rfl, h.2⟩
theorem fits_o {fs : List Fd} {vs : List Va} (h : fits (.b :: fs) vs) : ∃ x l, vs = .b x :: l ∧ fits fs l := by
 match vs, h with
 | .b x :: l, h => exact ⟨x, l, rfl, h.2⟩
theorem map_back {α : Type} {f : List Va → α} {g : α → List Va} : ∀ {es : List (List Va)}, (∀ v ∈ es, g (f v) = v) → (es.map f).map g = es
 | [], _ => rfl
 | v :: es, h => by rw [List.map_cons, List.map_cons, h v (by simp), map_back fun u hu => h u (by simp [hu])]
theorem ls_spot {es : List (List Va)} (h : ∀ v ∈ es, fits [.t, nF, nF, nF, .b] v) : (es.map toSpot).map (vaSpot) = es := by
 refine map_back fun v hv => ?_
 have hf := h v hv
 repeat (first | (obtain ⟨_, _, e, h'⟩ := fits_t hf; clear hf; subst e; have hf := h'; clear h') | (obtain ⟨_, _, e, h'⟩ := fits_n hf; clear hf; subst e; have hf := h'; clear h') | (obtain ⟨_, _, e, h'⟩ := fits_o hf; clear hf; subst e; have hf := h'; clear h'))
 cases fits_nil hf
 rfl
theorem ls_name {es : List (List Va)} (h : ∀ v ∈ es, fits [.t] v) : (es.map toName).map (fun p => [Va.s p]) = es := by
 refine map_back fun v hv => ?_
 have hf := h v hv
 repeat (first | (obtain ⟨_, _, e, h'⟩ := fits_t hf; clear hf; subst e; have hf := h'; clear h') | (obtain ⟨_, _, e, h'⟩ := fits_n hf; clear hf; subst e; have hf := h'; clear h') | (obtain ⟨_, _, e, h'⟩ := fits_o hf; clear hf; subst e; have hf := h'; clear h'))
 cases fits_nil hf
 rfl
theorem ls_hook {es : List (List Va)} (h : ∀ v ∈ es, fits [.t, nF, nF, nF] v) : (es.map toHook).map (vaHook) = es := by
 refine map_back fun v hv => ?_
 have hf := h v hv
 repeat (first | (obtain ⟨_, _, e, h'⟩ := fits_t hf; clear hf; subst e; have hf := h'; clear h') | (obtain ⟨_, _, e, h'⟩ := fits_n hf; clear hf; subst e; have hf := h'; clear h') | (obtain ⟨_, _, e, h'⟩ := fits_o hf; clear hf; subst e; have hf := h'; clear h'))
 cases fits_nil hf
 rfl
theorem ls_bytes {l es : List (List Va)} (h : l = es) : bList l.length ++ bEs l = bList es.length ++ bEs es := by rw [h]
theorem mk_va {k a : Int} {vs : List Va} {es : List (List Va)} (h1 : 2 ≤ k) (h2 : k ≤ 18) (hf : fits (shN k.toNat) vs) (hE : ∀ m fs, shE k.toNat = some (m, fs) → ∀ v ∈ es, fits fs v) : vaN (mkEv k a vs es) k.toNat = vs ∧ bLs (mkEv k a vs es) k.toNat = bLe k.toNat es := by
 have hk := kinds (by omega) h2
 rcases hk with rfl | rfl | rfl | rfl | rfl | rfl | rfl | rfl | rfl | rfl | rfl | rfl | rfl | rfl | rfl | rfl | rfl | rfl
 ·omega
 all_goals
  constructor
  ·simp only [shN, show ∀ n : Nat, (OfNat.ofNat n : Int).toNat = n from fun _ => rfl] at hf
   repeat (first | (obtain ⟨_, _, e, h'⟩ := fits_t hf; clear hf; subst e; have hf := h'; clear h') | (obtain ⟨_, _, e, h'⟩ := fits_n hf; clear hf; subst e; have hf := h'; clear h') | (obtain ⟨_, _, e, h'⟩ := fits_o hf; clear hf; subst e; have hf := h'; clear h'))
   cases fits_nil hf
   rfl
  ·first
    | rfl
    | exact ls_bytes (ls_spot (hE _ _ rfl))
    | exact ls_bytes (ls_name (hE _ _ rfl))
    | exact ls_bytes (ls_hook (hE _ _ rfl))
theorem gtMk {k a : Int} {s r : ByteArray} {vs : List Va} {es : List (List Va)} (h1 : 2 ≤ k) (h2 : k ≤ 18) (h : rdBody k.toNat s = .ok (vs, es) r) : s = bBody (mkEv k a vs es) k.toNat ++ r := by
 obtain ⟨g1, _, g3, _⟩ := ftBody h
 obtain ⟨e1, e2⟩ := mk_va (a := a) h1 h2 g1 fun m fs e => (g3 m fs e).2
 have := gtBody h
 unfold bBody
 split
 ·omega
 ·rw [e1, e2]
  exact this
theorem gS_fit {fs : List Fd} {vs : List Va} (h : fits (.t :: fs) vs) : (gS vs 0).size ≤ 64 := by
 match vs, h with
 | .s x :: vs, h => exact h.1
theorem mk_good {k a : Int} {vs : List Va} {es : List (List Va)} (h1 : 2 ≤ k) (h2 : k ≤ 18) (hf : fits (shN k.toNat) vs) (hl : es.length ≤ 32) : ShortEv (mkEv k a vs es) ∧ (mkEv k a vs es).order = ⟨⟨#[]⟩, []⟩ ∧ (mkEv k a vs es).item.size ≤ 64 := by
 have hk := kinds (by omega) h2
 have h0 : (⟨#[]⟩ : ByteArray).size ≤ 64 := by decide
 rcases hk with rfl | rfl | rfl | rfl | rfl | rfl | rfl | rfl | rfl | rfl | rfl | rfl | rfl | rfl | rfl | rfl | rfl | rfl
 ·omega
 all_goals
  refine ⟨⟨⟨?_, ?_⟩, ?_, ?_, ?_, ?_⟩, rfl, ?_⟩
  all_goals first
   | exact h0
   | exact gS_fit hf
   | (simp [mkEv, evt0, Short]; done)
   | (simp [mkEv, evt0, Short]; omega)
theorem callDf_ok : PCallOk Tryz.prog callDf := inlP_ok mixed (inlD_ok mixed (inlP_ok mixed (xtabCall_ok (by
 intro e he
 simp only [List.mem_cons, List.not_mem_nil, or_false] at he
 subst he
 exact ok_vr2) (ofV_ok (itabCall_ok (by
 intro e he
 simp only [tabRd, List.mem_cons, List.not_mem_nil, or_false] at he
 rcases he with rfl | rfl | rfl | rfl
 ·exact ok_kI
 ·exact ok_kT
 ·exact ok_kL
 ·exact ok_kB) noCall_ok))) 5) (tabFr_ok (by
 intro e he
 simp only [List.mem_cons, List.not_mem_nil, or_false] at he
 subst he
 exact ok_check) noP_ok)) 2
theorem ba_size0 {s : ByteArray} (h : s.size = 0) : s = ⟨#[]⟩ := ba_ext (by
 have := size_list s
 rw [h] at this
 exact List.eq_nil_of_length_eq_zero this.symm)
theorem short_few {o : Order2} (h : FewO o) : ShortO o := by
 refine ⟨by have := h.len; omega, fun e he => ?_⟩
 obtain ⟨g1, g2, g3, g4, g5⟩ := h.parts e he
 exact ⟨⟨by show _ < _; omega, by show _ < _; omega, fun l hl => by have := g5 l hl; show _ < _; omega⟩, by show _ < _; omega, by show _ < _; omega⟩
structure HoldE (x : Event) : Prop where
 short : ShortEv x
 inO : InOrder x.order
 few : FewO x.order
 item : x.item.size ≤ 64
 size : (bOrder x.order).size ≤ 16000000
theorem hold0 : HoldE evt0 := by
 have h0 : (⟨#[]⟩ : ByteArray).size ≤ 64 := by decide
 refine ⟨⟨⟨?_, ?_⟩, ?_, ?_, ?_, ?_⟩, zero_inO, zero_fewO, h0, by decide⟩
 all_goals simp [evt0, Short]
structure DecA (s : ByteArray) (x : Event) (e : Int) : Prop where
 hold : HoldE x
 yes : e = 0 → bEv x = s ∧ checkE x = 0
 no : e ≠ 0 → x = evt0
theorem DecA.not {s : ByteArray} {e : Int} (h : e ≠ 0) : DecA s evt0 e := ⟨hold0, fun h0 => absurd h0 h, fun _ => rfl⟩
theorem VisR.kind {k a w v : Int} {s r : ByteArray} {x : Event} (h : VisR k a w s x v r) (h1 : 1 ≤ k) (h2 : k ≤ 18) : x.kind = k ∧ x.at_ = a := by
 cases h with
 | body hk h =>
  have hk := kinds h1 h2
  rcases hk with rfl | rfl | rfl | rfl | rfl | rfl | rfl | rfl | rfl | rfl | rfl | rfl | rfl | rfl | rfl | rfl | rfl | rfl <;> exact ⟨rfl, rfl⟩
 | order hk h ho => exact ⟨rfl, rfl⟩
theorem VisR.hold {k a v : Int} {s r : ByteArray} {x : Event} (h : VisR k a 0 s x v r) (h1 : 1 ≤ k) (h2 : k ≤ 18) (hv : v = 0) : HoldE x ∧ s = bBody x k.toNat ++ r := by
 cases h with
 | body hk h =>
  obtain ⟨g1, g2, g3⟩ := mk_good (a := a) (by omega) h2 (ftBody h).1 (ftBody h).2.1
  exact ⟨⟨g1, by rw [g2]; exact zero_inO, by rw [g2]; exact zero_fewO, g3, by rw [g2]; decide⟩, gtMk (by omega) h2 h⟩
 | order hk h ho =>
  subst hk
  have e := ho.ok hv
  have hs := ftT h
  have h0 : (⟨#[]⟩ : ByteArray).size ≤ 64 := by decide
  refine ⟨⟨⟨?_, ?_, ?_, ?_, ?_⟩, ho.inO, ho.few, h0, by show (bOrder _).size ≤ _; rw [e]; omega⟩, ?_⟩
  ·exact short_few ho.few
  ·simp [evt0, Short]
  ·simp [evt0, Short]
  ·simp [evt0, Short]
  ·simp [evt0, Short]
  ·show _ = bText (bOrder _) ++ _
   rw [e]
   exact gtT h
def c_decA (args : List Value) (Post : Value → Prop) : Prop := match args with
 | [.string s] => s.size < 4611686018427387904 ∧ ∀ x e, DecA s x e → Post (.tuple #[eventV x, .int .i64 e])
 | _ => False
theorem ok_decA : EntOk Tryz.prog ⟨16, c_decA⟩ := by
 intro args Post hc
 unfold c_decA at hc
 dsimp only at hc
 split at hc
 case h_2 => exact hc.elim
 rename_i s
 obtain ⟨hs, h⟩ := hc
 refine B.pure_of_X ?_
 refine spec_X (conts := []) callDf_ok mixed (by kernel_rfl) (by kernel_rfl) [] (e_decF s _ _) ?_
 simp only [true_and, and_true]
 have hO : ∀ x, HoldE x → bEv x = s → checkE x = 0 → B.retV Post (.ret (.tuple #[eventV x, .int .i64 0])) [] := fun x g b c => h x 0 ⟨g, fun _ => ⟨b, c⟩, fun h => absurd rfl h⟩
 have hC : ∀ e : Int, e ≠ 0 → B.retV Post (.ret (.tuple #[eventV evt0, .int .i64 e])) [] := fun e c => h evt0 e (.not c)
 have hE : ∀ e : Nat, B.retV Post (.ret (.tuple #[eventV evt0, .int .i64 (.ofNat (e + 1))])) [] := fun e => h evt0 _ (.not (by show Int.ofNat (e + 1) ≠ 0; simp; omega))
 clear h
 repeat' (first | exact rfl | refine And.intro ?_ ?_ | trivial | decide | omega)
 rotate_left
 ·intro e ee
  repeat' (first | exact rfl | refine And.intro ?_ ?_ | trivial | decide | omega | exact hE e)
 intro k r ek
 have q1 := leI ek
 have f1 := ftI ek
 have g1 := gtI (by omega) (by omega) ek
 repeat' (first | exact rfl | refine And.intro ?_ ?_ | trivial | decide | omega)
 rotate_left
 ·intro e ee
  repeat' (first | exact rfl | refine And.intro ?_ ?_ | trivial | decide | omega | exact hE e)
 intro a r1 ea
 have q2 := leI ea
 have g2 := gtI (by omega) (by omega) ea
 repeat' (first | exact rfl | refine And.intro ?_ ?_ | trivial | decide | omega)
 refine ⟨k, a, 0, r1, rfl, by omega, by omega, by omega, fun x v r2 er => ?_, fun e ee r2 => ?_⟩
 ·obtain ⟨ek1, ek2⟩ := er.kind (by omega) (by omega)
  refine pIfD (fun hz => ?_) (fun hz => ?_)
  ·and_intros <;> try first | exact rfl | trivial | decide | omega
   exact hC 4 (by decide)
  refine ⟨by decide, by decide, by decide, pIfD (fun hv => ?_) (fun hv => ?_)⟩
  ·obtain ⟨ho, hb⟩ := er.hold (by omega) (by omega) hv
   have hr : r2 = ⟨#[]⟩ := ba_size0 (by omega)
   have hs2 : bEv x = s := by
    unfold bEv
    rw [ek1, ek2, g1, g2, hb, hr, ba_nilr, ba_assoc]
   refine ⟨x, rfl, ho.short, ho.inO, ho.few, by have := ho.item; omega, pIfN (fun hc => ?_) (fun hc => ?_)⟩
   ·and_intros <;> try first | exact rfl | trivial | decide | omega
    exact hC _ hc
   ·and_intros <;> try first | exact rfl | trivial | decide | omega
    exact hO x ho hs2 hc
  ·refine pIfN (fun _ => ?_) (fun h0 => absurd h0 hv)
   and_intros <;> try first | exact rfl | trivial | decide | omega
   exact hC _ hv
 ·intros
  repeat' (first | exact rfl | refine And.intro ?_ ?_ | trivial | decide | omega | exact hE e)
def w_I (args : List Value) (Post : Value → Prop) : Prop := match args with
 | [.int .i64 n] => (-9223372036854775808 ≤ n ∧ n < 9223372036854775808) ∧ Post (.string (bInt n))
 | _ => False
def w_T (args : List Value) (Post : Value → Prop) : Prop := match args with
 | [.string s] => s.size ≤ 16000000 ∧ Post (.string (bText s))
 | _ => False
def w_L (args : List Value) (Post : Value → Prop) : Prop := match args with
 | [.int .i64 n] => (0 ≤ n ∧ n < 9223372036854775808) ∧ Post (.string (bList n.toNat))
 | _ => False
theorem ok_wI : EntOk Tryz.prog ⟨32, w_I⟩ := by
 intro args Post h
 dsimp only [w_I] at h
 split at h
 case h_2 => exact h.elim
 exact ok_cInt _ _ ⟨_, rfl, h⟩
theorem ok_wT : EntOk Tryz.prog ⟨69, w_T⟩ := by
 intro args Post h
 dsimp only [w_T] at h
 split at h
 case h_2 => exact h.elim
 exact ok_cText _ _ ⟨_, rfl, h⟩
theorem ok_wL : EntOk Tryz.prog ⟨70, w_L⟩ := by
 intro args Post h
 dsimp only [w_L] at h
 split at h
 case h_2 => exact h.elim
 rename_i n
 obtain ⟨h1, h2⟩ := h
 obtain ⟨m, rfl⟩ := Int.eq_ofNat_of_zero_le h1.1
 exact ok_cList _ _ ⟨m, rfl, by omega, h2⟩
def tabW : List Ent := [⟨32, w_I⟩, ⟨69, w_T⟩, ⟨70, w_L⟩, ⟨44, c_Order⟩]
def callW : PCall := ofV (tabCall tabW noCall)
theorem callW_ok : PCallOk Tryz.prog callW := ofV_ok (tabCall_ok (by
 intro e he
 simp only [tabW, List.mem_cons, List.not_mem_nil, or_false] at he
 rcases he with rfl | rfl | rfl | rfl
 ·exact ok_wI
 ·exact ok_wT
 ·exact ok_wL
 ·exact ok_chEnc) noCall_ok)
def mkV : GCall (Option ByteArray) := mkW [47, 48, 49, 50, 51, 135, 136, 137, 138, 139, 140] callW 1
theorem mkV_ok (I : Base → Option ByteArray → Prop) (kx : Nat × Nat × Nat) (h : IsW I kx) : GCallOk Tryz.prog I 1 kx mkV := by
 obtain ⟨W0, c, rfl, rfl⟩ := h
 exact mkW_ok mixed callW_ok W0 c 1
abbrev argsW : List Value := [.pointer (some ⟨0, 0, none⟩), .iface 84 (.pointer (some ⟨1, 0, none⟩))]
theorem e_wr (x : Event) (S : ByteArray) (H : Code → List Fr → AS → Option ByteArray → Prop) (Post : List Value → Option ByteArray → Prop) : vcG Tryz.prog mkV 22 [(19, [0, 1, 132, 133]), (31, [0, 1, 203, 204]), (55, [0, 1, 330, 331])] [true, true] (hpW (eventC x)) argsW (some S) H Post = (let q15 := (toI (vi 0) ≤ 0 ∧ toI (vi 0) < (↑1 : Int)); let q14 := (1, some (AObj.cells [] false)); let q8 := IntKind.wrap IntKind.i64 (0 + 1) + 1; let q13 := IntKind.wrap IntKind.i64 q8 + 1; let q12 := vi (IntKind.wrap IntKind.i64 (0 + 1)); let q11 := (toI (vi 0) ≤ 0 ∧ toI (vi 0) < (↑3 : Int)); let q10 := (1, some (Value.iface 84 (pt 1))); let q9 := [(0, some (AObj.cells (evK x.kind x) true)), q14]; let q7 := (toI (vi 0) ≤ IntKind.wrap IntKind.i64 (0 + 1) ∧ toI q12 < (↑3 : Int)); let q6 := (↑x.saw.parts.length : Int); let q5 := (↑x.lift.hooks.length : Int); let q4 := (↑x.nest.spots.length : Int); let q3 := T8 (T4 (T2 (x.item.size ≤ 16000000 ∧ True ∧ S.size + ByteArray.size (bText x.item) ≤ 140737488355328 ∧ T2 (Post (evK x.kind x) (some (S ++ bText x.item)))))); let q2 := (toI (vi 0) ≤ IntKind.wrap IntKind.i64 q8 ∧ toI (vi (IntKind.wrap IntKind.i64 q8)) < (↑3 : Int)); let q1 := T16 (q11 ∧ T8 (T2 (x.item.size ≤ 16000000 ∧ True ∧ S.size + ByteArray.size (bText x.item) ≤ 140737488355328 ∧ T4 (q7 ∧ T8 (T2 (x.of_.size ≤ 16000000 ∧ True ∧ ByteArray.size (S ++ bText x.item) + ByteArray.size (bText x.of_) ≤ 140737488355328 ∧ T4 (q2 ∧ T8 (T2 (x.by_.size ≤ 16000000 ∧ True ∧ ByteArray.size (S ++ bText x.item ++ bText x.of_) + ByteArray.size (bText x.by_) ≤ 140737488355328 ∧ T4 (True ∧ Post (evK x.kind x) (some (S ++ bText x.item ++ bText x.of_ ++ bText x.by_)))))))))))); T4 (True ∧ pIf (decide (x.kind = 1)) (T8 (T4 (T2 (∃ (o : Order2), eqL [Value.agg #[vs x.order.id, tree 38 x.order.edits.length (encL x.order.edits)]] [order2V o] ∧ InOrder o ∧ FewO o ∧ True ∧ ByteArray.size (bOrder o) ≤ 16000000 ∧ True ∧ S.size + ByteArray.size (bText (bOrder o)) ≤ 140737488355328 ∧ T2 (Post (evK x.kind x) (some (S ++ bText (bOrder o)))))))) (T2 (pIf (decide (x.kind = 2)) (T16 (True ∧ (toI (vi 0) ≤ 0 ∧ toI (vi 0) < (↑2 : Int)) ∧ T8 (T2 (x.sheet.id.size ≤ 16000000 ∧ True ∧ S.size + ByteArray.size (bText x.sheet.id) ≤ 140737488355328 ∧ T4 ((toI (vi 0) ≤ IntKind.wrap IntKind.i64 (0 + 1) ∧ toI q12 < (↑2 : Int)) ∧ T8 (T2 (x.sheet.grade.size ≤ 16000000 ∧ True ∧ ByteArray.size (S ++ bText x.sheet.id) + ByteArray.size (bText x.sheet.grade) ≤ 140737488355328 ∧ T16 (T4 (q11 ∧ T8 (T2 ((-9223372036854775808 ≤ x.sheet.thick ∧ x.sheet.thick < 9223372036854775808) ∧ True ∧ ByteArray.size (S ++ bText x.sheet.id ++ bText x.sheet.grade) + ByteArray.size (bInt x.sheet.thick) ≤ 140737488355328 ∧ T4 (q7 ∧ T8 (T2 ((-9223372036854775808 ≤ x.sheet.long ∧ x.sheet.long < 9223372036854775808) ∧ True ∧ ByteArray.size (S ++ bText x.sheet.id ++ bText x.sheet.grade ++ bInt x.sheet.thick) + ByteArray.size (bInt x.sheet.long) ≤ 140737488355328 ∧ T4 (q2 ∧ T8 (T2 ((-9223372036854775808 ≤ x.sheet.width ∧ x.sheet.width < 9223372036854775808) ∧ True ∧ ByteArray.size (S ++ bText x.sheet.id ++ bText x.sheet.grade ++ bInt x.sheet.thick ++ bInt x.sheet.long) + ByteArray.size (bInt x.sheet.width) ≤ 140737488355328 ∧ T16 (T2 (x.sheet.heat.size ≤ 16000000 ∧ True ∧ ByteArray.size (S ++ bText x.sheet.id ++ bText x.sheet.grade ++ bInt x.sheet.thick ++ bInt x.sheet.long ++ bInt x.sheet.width) + ByteArray.size (bText x.sheet.heat) ≤ 140737488355328 ∧ T2 (Post (evK x.kind x) (some (S ++ bText x.sheet.id ++ bText x.sheet.grade ++ bInt x.sheet.thick ++ bInt x.sheet.long ++ bInt x.sheet.width ++ bText x.sheet.heat)))))))))))))))))))))) (T2 (pIf (decide (x.kind = 3)) (T16 (T2 (True ∧ q11 ∧ T8 (T2 (x.bar.id.size ≤ 16000000 ∧ True ∧ S.size + ByteArray.size (bText x.bar.id) ≤ 140737488355328 ∧ T4 (q7 ∧ T8 (T2 (x.bar.sect.size ≤ 16000000 ∧ True ∧ ByteArray.size (S ++ bText x.bar.id) + ByteArray.size (bText x.bar.sect) ≤ 140737488355328 ∧ T4 (q2 ∧ T8 (T2 (x.bar.grade.size ≤ 16000000 ∧ True ∧ ByteArray.size (S ++ bText x.bar.id ++ bText x.bar.sect) + ByteArray.size (bText x.bar.grade) ≤ 140737488355328 ∧ T8 (T4 (T2 (True ∧ q15 ∧ T8 (T2 ((-9223372036854775808 ≤ x.bar.long ∧ x.bar.long < 9223372036854775808) ∧ True ∧ ByteArray.size (S ++ bText x.bar.id ++ bText x.bar.sect ++ bText x.bar.grade) + ByteArray.size (bInt x.bar.long) ≤ 140737488355328 ∧ T16 (T2 (x.bar.heat.size ≤ 16000000 ∧ True ∧ ByteArray.size (S ++ bText x.bar.id ++ bText x.bar.sect ++ bText x.bar.grade ++ bInt x.bar.long) + ByteArray.size (bText x.bar.heat) ≤ 140737488355328 ∧ T2 (Post (evK x.kind x) (some (S ++ bText x.bar.id ++ bText x.bar.sect ++ bText x.bar.grade ++ bInt x.bar.long ++ bText x.bar.heat))))))))))))))))))))) (T2 (pIf (decide (x.kind = 4)) (T8 (T4 (True ∧ (toI (vi 0) ≤ 0 ∧ toI (vi 0) < (↑2 : Int)) ∧ T8 (T2 (x.item.size ≤ 16000000 ∧ True ∧ S.size + ByteArray.size (bText x.item) ≤ 140737488355328 ∧ T4 ((toI (vi 0) ≤ IntKind.wrap IntKind.i64 (0 + 1) ∧ toI q12 < (↑2 : Int)) ∧ T8 (T2 (x.by_.size ≤ 16000000 ∧ True ∧ ByteArray.size (S ++ bText x.item) + ByteArray.size (bText x.by_) ≤ 140737488355328 ∧ T4 (True ∧ Post (evK x.kind x) (some (S ++ bText x.item ++ bText x.by_))))))))))) (T2 (pIf (decide (x.kind = 5)) (T8 (T4 (T2 (True ∧ x.nest.sheet.size ≤ 16000000 ∧ True ∧ S.size + ByteArray.size (bText x.nest.sheet) ≤ 140737488355328 ∧ T8 (T4 (q15 ∧ T8 (T2 ((-9223372036854775808 ≤ x.nest.gap ∧ x.nest.gap < 9223372036854775808) ∧ True ∧ ByteArray.size (S ++ bText x.nest.sheet) + ByteArray.size (bInt x.nest.gap) ≤ 140737488355328 ∧ T16 (T4 (T2 (True ∧ (0 ≤ q4 ∧ q4 < 9223372036854775808) ∧ True ∧ ByteArray.size (S ++ bText x.nest.sheet ++ bInt x.nest.gap) + ByteArray.size (bList (Int.toNat q4)) ≤ 140737488355328 ∧ T8 (T2 (True ∧ pIf (!decide (q4 = q4)) (T2 ((0 ≤ q4 ∧ q4 ≤ q4 ∧ q4 ≤ 2 ^ 25) ∧ True ∧ 23 ≤ 40 ∧ T8 ((T2 (NLs (zrow (Int.toNat q4) [vz, vi 0, vi 0, vi 0, vb false]) ∧ True)) ∧ H (lpC Tryz.prog 22 19) (lpK Tryz.prog 22 19) (stV [(0, some (pt 0)), q10, (132, some (vi (↑(Int.toNat q4) : Int))), (133, some (vi 0))] [(0, some (AObj.cells [vi x.kind, vi x.at_, vs x.item, vs x.of_, vs x.by_, vi x.n, vb x.pass, vs x.order.id, tree 38 x.order.edits.length (encL x.order.edits), vs x.sheet.id, vs x.sheet.grade, vi x.sheet.thick, vi x.sheet.long, vi x.sheet.width, vs x.sheet.heat, vs x.bar.id, vs x.bar.sect, vs x.bar.grade, vi x.bar.long, vs x.bar.heat, vs x.nest.sheet, vi x.nest.gap, Value.slice (some (Addr.mk 2 0 none)) (Int.toNat q4) 5, vs x.saw.bar, vi x.saw.kerf, tree 1 x.saw.parts.length (encL x.saw.parts), vs x.weig.block, vi x.weig.at_, vi x.weig.mass, vi x.weig.centre.x, vi x.weig.centre.y, vi x.weig.centre.z, vi x.weig.sigma, tree 1 x.weig.parts.length (encL x.weig.parts), vs x.lift.block, tree 4 x.lift.hooks.length (encL x.lift.hooks), vs x.permit.id, vi x.permit.kind, vi x.permit.time.a, vi x.permit.time.b] true)), q14, (2, some (AObj.cells (zrow (Int.toNat q4) [vz, vi 0, vi 0, vi 0, vb false]) true))] 3) (some (S ++ bText x.nest.sheet ++ bInt x.nest.gap ++ bList (Int.toNat q4)))))) (T8 ((T2 (True)) ∧ H (lpC Tryz.prog 22 19) (lpK Tryz.prog 22 19) (stV [(0, some (pt 0)), q10, (132, some (vi q4)), (133, some (vi 0))] q9 2) (some (S ++ bText x.nest.sheet ++ bInt x.nest.gap ++ bList (Int.toNat q4)))))))))))))))))) (T2 (pIf (decide (x.kind = 6)) (T8 (T4 (T2 (True ∧ x.saw.bar.size ≤ 16000000 ∧ True ∧ S.size + ByteArray.size (bText x.saw.bar) ≤ 140737488355328 ∧ T8 (T4 (q15 ∧ T8 (T2 ((-9223372036854775808 ≤ x.saw.kerf ∧ x.saw.kerf < 9223372036854775808) ∧ True ∧ ByteArray.size (S ++ bText x.saw.bar) + ByteArray.size (bInt x.saw.kerf) ≤ 140737488355328 ∧ T16 (T4 (T2 (True ∧ (0 ≤ q6 ∧ q6 < 9223372036854775808) ∧ True ∧ ByteArray.size (S ++ bText x.saw.bar ++ bInt x.saw.kerf) + ByteArray.size (bList (Int.toNat q6)) ≤ 140737488355328 ∧ T8 (T2 (True ∧ pIf (!decide (q6 = q6)) (T2 ((0 ≤ q6 ∧ q6 ≤ q6 ∧ q6 ≤ 2 ^ 25) ∧ True ∧ 26 ≤ 40 ∧ T8 ((T2 (NLs (zrow (Int.toNat q6) [vz]) ∧ True)) ∧ H (lpC Tryz.prog 22 31) (lpK Tryz.prog 22 31) (stV [(0, some (pt 0)), q10, (203, some (vi (↑(Int.toNat q6) : Int))), (204, some (vi 0))] [(0, some (AObj.cells [vi x.kind, vi x.at_, vs x.item, vs x.of_, vs x.by_, vi x.n, vb x.pass, vs x.order.id, tree 38 x.order.edits.length (encL x.order.edits), vs x.sheet.id, vs x.sheet.grade, vi x.sheet.thick, vi x.sheet.long, vi x.sheet.width, vs x.sheet.heat, vs x.bar.id, vs x.bar.sect, vs x.bar.grade, vi x.bar.long, vs x.bar.heat, vs x.nest.sheet, vi x.nest.gap, tree 5 x.nest.spots.length (encL x.nest.spots), vs x.saw.bar, vi x.saw.kerf, Value.slice (some (Addr.mk 2 0 none)) (Int.toNat q6) 1, vs x.weig.block, vi x.weig.at_, vi x.weig.mass, vi x.weig.centre.x, vi x.weig.centre.y, vi x.weig.centre.z, vi x.weig.sigma, tree 1 x.weig.parts.length (encL x.weig.parts), vs x.lift.block, tree 4 x.lift.hooks.length (encL x.lift.hooks), vs x.permit.id, vi x.permit.kind, vi x.permit.time.a, vi x.permit.time.b] true)), q14, (2, some (AObj.cells (zrow (Int.toNat q6) [vz]) true))] 3) (some (S ++ bText x.saw.bar ++ bInt x.saw.kerf ++ bList (Int.toNat q6)))))) (T8 ((T2 (True)) ∧ H (lpC Tryz.prog 22 31) (lpK Tryz.prog 22 31) (stV [(0, some (pt 0)), q10, (203, some (vi q6)), (204, some (vi 0))] q9 2) (some (S ++ bText x.saw.bar ++ bInt x.saw.kerf ++ bList (Int.toNat q6)))))))))))))))))) (T2 (pIf (decide (x.kind = 7)) q3 (T2 (pIf (decide (x.kind = 8)) q3 (T2 (pIf (decide (x.kind = 12)) q3 (T2 (pIf (decide (x.kind = 16)) q3 (T2 (pIf (decide (x.kind = 9)) q1 (T2 (pIf (decide (x.kind = 11)) q1 (T2 (pIf (decide (x.kind = 10)) (T8 (T4 (T2 (x.item.size ≤ 16000000 ∧ True ∧ S.size + ByteArray.size (bText x.item) ≤ 140737488355328 ∧ T8 (T4 (T2 (True ∧ (-9223372036854775808 ≤ x.n ∧ x.n < 9223372036854775808) ∧ True ∧ ByteArray.size (S ++ bText x.item) + ByteArray.size (bInt x.n) ≤ 140737488355328 ∧ T8 (T4 (T2 (True ∧ pIf x.pass (T2 (True ∧ (1 ≤ 1 ∧ AllU8 [Value.int IntKind.u8 245]) ∧ T2 (ByteArray.size (S ++ bText x.item ++ bInt x.n) + 1 ≤ 140737488355328 ∧ T2 (Post (evK x.kind x) (some (S ++ bText x.item ++ bInt x.n ++ bytesL [Value.int IntKind.u8 245])))))) (T2 (True ∧ (1 ≤ 1 ∧ AllU8 [Value.int IntKind.u8 244]) ∧ T2 (ByteArray.size (S ++ bText x.item ++ bInt x.n) + 1 ≤ 140737488355328 ∧ T2 (Post (evK x.kind x) (some (S ++ bText x.item ++ bInt x.n ++ bytesL [Value.int IntKind.u8 244])))))))))))))))) (T2 (pIf (decide (x.kind = 13)) (T16 (T2 (x.weig.block.size ≤ 16000000 ∧ True ∧ S.size + ByteArray.size (bText x.weig.block) ≤ 140737488355328 ∧ T16 (T8 (T2 ((toI (vi 0) ≤ 0 ∧ toI (vi 0) < (↑5 : Int)) ∧ T8 (T2 ((-9223372036854775808 ≤ x.weig.mass ∧ x.weig.mass < 9223372036854775808) ∧ True ∧ ByteArray.size (S ++ bText x.weig.block) + ByteArray.size (bInt x.weig.mass) ≤ 140737488355328 ∧ T4 ((toI (vi 0) ≤ IntKind.wrap IntKind.i64 (0 + 1) ∧ toI q12 < (↑5 : Int)) ∧ T8 (T2 ((-9223372036854775808 ≤ x.weig.centre.x ∧ x.weig.centre.x < 9223372036854775808) ∧ True ∧ ByteArray.size (S ++ bText x.weig.block ++ bInt x.weig.mass) + ByteArray.size (bInt x.weig.centre.x) ≤ 140737488355328 ∧ T4 ((toI (vi 0) ≤ IntKind.wrap IntKind.i64 q8 ∧ toI (vi (IntKind.wrap IntKind.i64 q8)) < (↑5 : Int)) ∧ T8 (T2 ((-9223372036854775808 ≤ x.weig.centre.y ∧ x.weig.centre.y < 9223372036854775808) ∧ True ∧ ByteArray.size (S ++ bText x.weig.block ++ bInt x.weig.mass ++ bInt x.weig.centre.x) + ByteArray.size (bInt x.weig.centre.y) ≤ 140737488355328 ∧ T4 ((toI (vi 0) ≤ IntKind.wrap IntKind.i64 q13 ∧ toI (vi (IntKind.wrap IntKind.i64 q13)) < (↑5 : Int)) ∧ T8 (T2 ((-9223372036854775808 ≤ x.weig.centre.z ∧ x.weig.centre.z < 9223372036854775808) ∧ True ∧ ByteArray.size (S ++ bText x.weig.block ++ bInt x.weig.mass ++ bInt x.weig.centre.x ++ bInt x.weig.centre.y) + ByteArray.size (bInt x.weig.centre.z) ≤ 140737488355328 ∧ T4 ((toI (vi 0) ≤ IntKind.wrap IntKind.i64 (IntKind.wrap IntKind.i64 q13 + 1) ∧ toI (vi (IntKind.wrap IntKind.i64 (IntKind.wrap IntKind.i64 q13 + 1))) < (↑5 : Int)) ∧ T8 (T2 ((-9223372036854775808 ≤ x.weig.sigma ∧ x.weig.sigma < 9223372036854775808) ∧ True ∧ ByteArray.size (S ++ bText x.weig.block ++ bInt x.weig.mass ++ bInt x.weig.centre.x ++ bInt x.weig.centre.y ++ bInt x.weig.centre.z) + ByteArray.size (bInt x.weig.sigma) ≤ 140737488355328 ∧ T4 (True ∧ Post (evK x.kind x) (some (S ++ bText x.weig.block ++ bInt x.weig.mass ++ bInt x.weig.centre.x ++ bInt x.weig.centre.y ++ bInt x.weig.centre.z ++ bInt x.weig.sigma))))))))))))))))))))))) (T2 (pIf (decide (x.kind = 14)) (T8 (T4 (T2 (True ∧ x.lift.block.size ≤ 16000000 ∧ True ∧ S.size + ByteArray.size (bText x.lift.block) ≤ 140737488355328 ∧ T16 (T4 (True ∧ (0 ≤ q5 ∧ q5 < 9223372036854775808) ∧ True ∧ ByteArray.size (S ++ bText x.lift.block) + ByteArray.size (bList (Int.toNat q5)) ≤ 140737488355328 ∧ T8 (T2 (True ∧ pIf (!decide (q5 = q5)) (T2 ((0 ≤ q5 ∧ q5 ≤ q5 ∧ q5 ≤ 2 ^ 25) ∧ True ∧ 36 ≤ 40 ∧ T8 ((T2 (NLs (zrow (Int.toNat q5) [vz, vi 0, vi 0, vi 0]) ∧ True)) ∧ H (lpC Tryz.prog 22 55) (lpK Tryz.prog 22 55) (stV [(0, some (pt 0)), q10, (330, some (vi (↑(Int.toNat q5) : Int))), (331, some (vi 0))] [(0, some (AObj.cells [vi x.kind, vi x.at_, vs x.item, vs x.of_, vs x.by_, vi x.n, vb x.pass, vs x.order.id, tree 38 x.order.edits.length (encL x.order.edits), vs x.sheet.id, vs x.sheet.grade, vi x.sheet.thick, vi x.sheet.long, vi x.sheet.width, vs x.sheet.heat, vs x.bar.id, vs x.bar.sect, vs x.bar.grade, vi x.bar.long, vs x.bar.heat, vs x.nest.sheet, vi x.nest.gap, tree 5 x.nest.spots.length (encL x.nest.spots), vs x.saw.bar, vi x.saw.kerf, tree 1 x.saw.parts.length (encL x.saw.parts), vs x.weig.block, vi x.weig.at_, vi x.weig.mass, vi x.weig.centre.x, vi x.weig.centre.y, vi x.weig.centre.z, vi x.weig.sigma, tree 1 x.weig.parts.length (encL x.weig.parts), vs x.lift.block, Value.slice (some (Addr.mk 2 0 none)) (Int.toNat q5) 4, vs x.permit.id, vi x.permit.kind, vi x.permit.time.a, vi x.permit.time.b] true)), q14, (2, some (AObj.cells (zrow (Int.toNat q5) [vz, vi 0, vi 0, vi 0]) true))] 3) (some (S ++ bText x.lift.block ++ bList (Int.toNat q5)))))) (T8 ((T2 (True)) ∧ H (lpC Tryz.prog 22 55) (lpK Tryz.prog 22 55) (stV [(0, some (pt 0)), q10, (330, some (vi q5)), (331, some (vi 0))] q9 2) (some (S ++ bText x.lift.block ++ bList (Int.toNat q5))))))))))))) (T2 (pIf (decide (x.kind = 15)) (T8 (T4 (T2 (True ∧ x.permit.id.size ≤ 16000000 ∧ True ∧ S.size + ByteArray.size (bText x.permit.id) ≤ 140737488355328 ∧ T16 (T4 (T2 (q11 ∧ T8 (T2 ((-9223372036854775808 ≤ x.permit.kind ∧ x.permit.kind < 9223372036854775808) ∧ True ∧ ByteArray.size (S ++ bText x.permit.id) + ByteArray.size (bInt x.permit.kind) ≤ 140737488355328 ∧ T4 (q7 ∧ T8 (T2 ((-9223372036854775808 ≤ x.permit.time.a ∧ x.permit.time.a < 9223372036854775808) ∧ True ∧ ByteArray.size (S ++ bText x.permit.id ++ bInt x.permit.kind) + ByteArray.size (bInt x.permit.time.a) ≤ 140737488355328 ∧ T4 (q2 ∧ T8 (T2 ((-9223372036854775808 ≤ x.permit.time.b ∧ x.permit.time.b < 9223372036854775808) ∧ True ∧ ByteArray.size (S ++ bText x.permit.id ++ bInt x.permit.kind ++ bInt x.permit.time.a) + ByteArray.size (bInt x.permit.time.b) ≤ 140737488355328 ∧ T4 (True ∧ Post (evK x.kind x) (some (S ++ bText x.permit.id ++ bInt x.permit.kind ++ bInt x.permit.time.a ++ bInt x.permit.time.b)))))))))))))))))) (True ∧ Post (evK x.kind x) (some S)))))))))))))))))))))))))))))))))) := by kernel_rfl
theorem l_wr5 (x : Event) (S : ByteArray) (i : Int) (H : Code → List Fr → AS → Option ByteArray → Prop) (Post : List Value → Option ByteArray → Prop) : vcLG Tryz.prog mkV 22 argsW [(19, [0, 1, 132, 133]), (31, [0, 1, 203, 204]), (55, [0, 1, 330, 331])] [true, true] 19 (stV [(0, some (.pointer (some ⟨0, 0, none⟩))), (1, some (.iface 84 (.pointer (some ⟨1, 0, none⟩)))), (132, some (.int .i64 x.nest.spots.length)), (133, some (.int .i64 i))] [(0, some (.cells (eventC x) true)), (1, some (.cells [] false))] 2) (some S) H Post = (let q5 := (stV [(0, some (pt 0)), (1, some (Value.iface 84 (pt 1))), (132, some (vi (↑x.nest.spots.length : Int))), (133, some (vi (IntKind.wrap IntKind.i64 (i + 1))))] [(0, some (AObj.cells (evK x.kind x) true)), (1, some (AObj.cells [] false))] 2); let q4 := cellAt (encL x.nest.spots) (Int.toNat i) 3; let q3 := cellAt (encL x.nest.spots) (Int.toNat i) 2; let q2 := cellAt (encL x.nest.spots) (Int.toNat i) 1; let q1 := toS (cellAt (encL x.nest.spots) (Int.toNat i) 0); True ∧ pIf (decide (i < (↑x.nest.spots.length : Int))) (T8 ((0 ≤ i ∧ i < (↑x.nest.spots.length : Int)) ∧ T8 (T4 (True ∧ cellAt (encL x.nest.spots) (Int.toNat i) 0 = vs q1 ∧ ByteArray.size q1 ≤ 16000000 ∧ True ∧ S.size + ByteArray.size (bText q1) ≤ 140737488355328 ∧ T16 (T2 (True ∧ (toI (vi 0) ≤ 0 ∧ toI (vi 0) < (↑3 : Int)) ∧ T8 (True ∧ cellAt (encL x.nest.spots) (Int.toNat i) 1 = vi (toI q2) ∧ (-9223372036854775808 ≤ toI q2 ∧ toI q2 < 9223372036854775808) ∧ True ∧ ByteArray.size (S ++ bText q1) + ByteArray.size (bInt (toI q2)) ≤ 140737488355328 ∧ T4 ((toI (vi 0) ≤ IntKind.wrap IntKind.i64 (0 + 1) ∧ toI (vi (IntKind.wrap IntKind.i64 (0 + 1))) < (↑3 : Int)) ∧ T8 (True ∧ cellAt (encL x.nest.spots) (Int.toNat i) 2 = vi (toI q3) ∧ (-9223372036854775808 ≤ toI q3 ∧ toI q3 < 9223372036854775808) ∧ True ∧ ByteArray.size (S ++ bText q1 ++ bInt (toI q2)) + ByteArray.size (bInt (toI q3)) ≤ 140737488355328 ∧ T4 ((toI (vi 0) ≤ IntKind.wrap IntKind.i64 (IntKind.wrap IntKind.i64 (0 + 1) + 1) ∧ toI (vi (IntKind.wrap IntKind.i64 (IntKind.wrap IntKind.i64 (0 + 1) + 1))) < (↑3 : Int)) ∧ T8 (True ∧ cellAt (encL x.nest.spots) (Int.toNat i) 3 = vi (toI q4) ∧ (-9223372036854775808 ≤ toI q4 ∧ toI q4 < 9223372036854775808) ∧ True ∧ ByteArray.size (S ++ bText q1 ++ bInt (toI q2) ++ bInt (toI q3)) + ByteArray.size (bInt (toI q4)) ≤ 140737488355328 ∧ T16 (True ∧ cellAt (encL x.nest.spots) (Int.toNat i) 4 = vb (toB (cellAt (encL x.nest.spots) (Int.toNat i) 4)) ∧ pIf (toB (cellAt (encL x.nest.spots) (Int.toNat i) 4)) (T2 (True ∧ (1 ≤ 1 ∧ AllU8 [Value.int IntKind.u8 245]) ∧ T2 (ByteArray.size (S ++ bText q1 ++ bInt (toI q2) ++ bInt (toI q3) ++ bInt (toI q4)) + 1 ≤ 140737488355328 ∧ T4 (True ∧ (T2 (True)) ∧ H (lpC Tryz.prog 22 19) (lpK Tryz.prog 22 19) q5 (some (S ++ bText q1 ++ bInt (toI q2) ++ bInt (toI q3) ++ bInt (toI q4) ++ bytesL [Value.int IntKind.u8 245])))))) (T2 (True ∧ (1 ≤ 1 ∧ AllU8 [Value.int IntKind.u8 244]) ∧ T2 (ByteArray.size (S ++ bText q1 ++ bInt (toI q2) ++ bInt (toI q3) ++ bInt (toI q4)) + 1 ≤ 140737488355328 ∧ T4 (True ∧ (T2 (True)) ∧ H (lpC Tryz.prog 22 19) (lpK Tryz.prog 22 19) q5 (some (S ++ bText q1 ++ bInt (toI q2) ++ bInt (toI q3) ++ bInt (toI q4) ++ bytesL [Value.int IntKind.u8 244])))))))))))))))))) (Post (evK x.kind x) (some S))) := by kernel_rfl
theorem l_wr6 (x : Event) (S : ByteArray) (i : Int) (H : Code → List Fr → AS → Option ByteArray → Prop) (Post : List Value → Option ByteArray → Prop) : vcLG Tryz.prog mkV 22 argsW [(19, [0, 1, 132, 133]), (31, [0, 1, 203, 204]), (55, [0, 1, 330, 331])] [true, true] 31 (stV [(0, some (.pointer (some ⟨0, 0, none⟩))), (1, some (.iface 84 (.pointer (some ⟨1, 0, none⟩)))), (203, some (.int .i64 x.saw.parts.length)), (204, some (.int .i64 i))] [(0, some (.cells (eventC x) true)), (1, some (.cells [] false))] 2) (some S) H Post = (let q1 := toS (cellAt (encL x.saw.parts) (Int.toNat i) 0); True ∧ pIf (decide (i < (↑x.saw.parts.length : Int))) (T8 (True ∧ (0 ≤ i ∧ i < (↑x.saw.parts.length : Int)) ∧ T8 (cellAt (encL x.saw.parts) (Int.toNat i) 0 = vs q1 ∧ ByteArray.size q1 ≤ 16000000 ∧ True ∧ S.size + ByteArray.size (bText q1) ≤ 140737488355328 ∧ T4 (True ∧ (T2 (True)) ∧ H (lpC Tryz.prog 22 31) (lpK Tryz.prog 22 31) (stV [(0, some (pt 0)), (1, some (Value.iface 84 (pt 1))), (203, some (vi (↑x.saw.parts.length : Int))), (204, some (vi (IntKind.wrap IntKind.i64 (i + 1))))] [(0, some (AObj.cells (evK x.kind x) true)), (1, some (AObj.cells [] false))] 2) (some (S ++ bText q1)))))) (Post (evK x.kind x) (some S))) := by kernel_rfl
theorem l_wr14 (x : Event) (S : ByteArray) (i : Int) (H : Code → List Fr → AS → Option ByteArray → Prop) (Post : List Value → Option ByteArray → Prop) : vcLG Tryz.prog mkV 22 argsW [(19, [0, 1, 132, 133]), (31, [0, 1, 203, 204]), (55, [0, 1, 330, 331])] [true, true] 55 (stV [(0, some (.pointer (some ⟨0, 0, none⟩))), (1, some (.iface 84 (.pointer (some ⟨1, 0, none⟩)))), (330, some (.int .i64 x.lift.hooks.length)), (331, some (.int .i64 i))] [(0, some (.cells (eventC x) true)), (1, some (.cells [] false))] 2) (some S) H Post = (let q4 := cellAt (encL x.lift.hooks) (Int.toNat i) 3; let q3 := cellAt (encL x.lift.hooks) (Int.toNat i) 2; let q2 := cellAt (encL x.lift.hooks) (Int.toNat i) 1; let q1 := toS (cellAt (encL x.lift.hooks) (Int.toNat i) 0); True ∧ pIf (decide (i < (↑x.lift.hooks.length : Int))) (T8 ((0 ≤ i ∧ i < (↑x.lift.hooks.length : Int)) ∧ T8 (T4 (True ∧ cellAt (encL x.lift.hooks) (Int.toNat i) 0 = vs q1 ∧ ByteArray.size q1 ≤ 16000000 ∧ True ∧ S.size + ByteArray.size (bText q1) ≤ 140737488355328 ∧ T16 (T2 (True ∧ (toI (vi 0) ≤ 0 ∧ toI (vi 0) < (↑3 : Int)) ∧ T8 (True ∧ cellAt (encL x.lift.hooks) (Int.toNat i) 1 = vi (toI q2) ∧ (-9223372036854775808 ≤ toI q2 ∧ toI q2 < 9223372036854775808) ∧ True ∧ ByteArray.size (S ++ bText q1) + ByteArray.size (bInt (toI q2)) ≤ 140737488355328 ∧ T4 ((toI (vi 0) ≤ IntKind.wrap IntKind.i64 (0 + 1) ∧ toI (vi (IntKind.wrap IntKind.i64 (0 + 1))) < (↑3 : Int)) ∧ T8 (True ∧ cellAt (encL x.lift.hooks) (Int.toNat i) 2 = vi (toI q3) ∧ (-9223372036854775808 ≤ toI q3 ∧ toI q3 < 9223372036854775808) ∧ True ∧ ByteArray.size (S ++ bText q1 ++ bInt (toI q2)) + ByteArray.size (bInt (toI q3)) ≤ 140737488355328 ∧ T4 ((toI (vi 0) ≤ IntKind.wrap IntKind.i64 (IntKind.wrap IntKind.i64 (0 + 1) + 1) ∧ toI (vi (IntKind.wrap IntKind.i64 (IntKind.wrap IntKind.i64 (0 + 1) + 1))) < (↑3 : Int)) ∧ T8 (True ∧ cellAt (encL x.lift.hooks) (Int.toNat i) 3 = vi (toI q4) ∧ (-9223372036854775808 ≤ toI q4 ∧ toI q4 < 9223372036854775808) ∧ True ∧ ByteArray.size (S ++ bText q1 ++ bInt (toI q2) ++ bInt (toI q3)) + ByteArray.size (bInt (toI q4)) ≤ 140737488355328 ∧ T8 ((T2 (True)) ∧ H (lpC Tryz.prog 22 55) (lpK Tryz.prog 22 55) (stV [(0, some (pt 0)), (1, some (Value.iface 84 (pt 1))), (330, some (vi (↑x.lift.hooks.length : Int))), (331, some (vi (IntKind.wrap IntKind.i64 (i + 1))))] [(0, some (AObj.cells (evK x.kind x) true)), (1, some (AObj.cells [] false))] 2) (some (S ++ bText q1 ++ bInt (toI q2) ++ bInt (toI q3) ++ bInt (toI q4))))))))))))))) (Post (evK x.kind x) (some S))) := by kernel_rfl
theorem specG_mono {P : Program} {Is : (Base → Option ByteArray → Prop) → Nat × Nat × Nat → Prop} {f : FuncId} {kb N : Nat} {hp : Tr AObj} {args : List Value} {g : Option ByteArray} {Post Post' : Value → Tr AObj → Option ByteArray → Prop} (h : SpecG P Is f kb N hp args g Post) (k : ∀ v hp g, Post v hp g → Post' v hp g) : SpecG P Is f kb N hp args g Post' := by
 intro I kx hIs W ρ w args' hI hkx hrel hargs
 refine (h I kx hIs W ρ w args' hI hkx hrel hargs).mono ?_
 rintro e w' ⟨v, v', hp', nx', g', ρ', W', hp0, r⟩
 exact ⟨v, v', hp', nx', g', ρ', W', k _ _ _ hp0, r⟩
theorem isW_ds (I : Base → Option ByteArray → Prop) (kx : Nat × Nat × Nat) (h : IsW I kx) (W : Base) (D : List Deferred) (g : Option ByteArray) (hI : I W g) : I ⟨W.w, W.mu, W.f0, D⟩ g := by
 obtain ⟨W0, c, rfl, rfl⟩ := h
 exact HidO.ds W D g hI
structure WrOk (x : Event) : Prop where
 k1 : 1 ≤ x.kind
 k2 : x.kind ≤ 18
 fit : fits (shN x.kind.toNat) (vaN x x.kind.toNat) ∧ fitsL x x.kind.toNat
 inO : InOrder x.order
 few : FewO x.order
 ord : (bOrder x.order).size ≤ 16000000
theorem WrOk.fitK {x : Event} (h : WrOk x) {k : Nat} (hk : x.kind = k) : fits (shN k) (vaN x k) := by
 have := h.fit.1
 rw [hk] at this
 exact this
theorem WrOk.fitLK {x : Event} (h : WrOk x) {k : Nat} (hk : x.kind = k) : fitsL x k := by
 have := h.fit.2
 rw [hk] at this
 exact this
theorem bT : bytesL [.int .u8 245] = bBool true := rfl
theorem bF : bytesL [.int .u8 244] = bBool false := rfl
theorem one_size {b : Bool} : (bBool b).size = 1 := by cases b <;> rfl
theorem wl5 {x : Event} (hL : fitsL x 5) {Post : List Value → Option ByteArray → Prop} (B : ByteArray) (hB : B.size ≤ 4000000000) (hP : Post (eventC x) (some (B ++ bEs (vaE x 5)))) : OkG Tryz.prog IsW 22 argsW 1 [true, true] Post (lpC Tryz.prog 22 19) (lpK Tryz.prog 22 19) (stV [(0, some (.pointer (some ⟨0, 0, none⟩))), (1, some (.iface 84 (.pointer (some ⟨1, 0, none⟩)))), (132, some (.int .i64 x.nest.spots.length)), (133, some (.int .i64 0))] [(0, some (.cells (eventC x) true)), (1, some (.cells [] false))] 2) (some (B)) := by
 simp only [fitsL, shE, fits, fit, vaE, List.length_map] at hL
 have hlen : (vaE x 5).length = x.nest.spots.length := by simp [vaE]
 have key := down (n := x.nest.spots.length) (p := fun k => ∀ C, C = B ++ bEs ((vaE x 5).take k) → C.size ≤ 4000000000 + 200 * k → OkG Tryz.prog IsW 22 argsW 1 [true, true] Post (lpC Tryz.prog 22 19) (lpK Tryz.prog 22 19) (stV [(0, some (.pointer (some ⟨0, 0, none⟩))), (1, some (.iface 84 (.pointer (some ⟨1, 0, none⟩)))), (132, some (.int .i64 x.nest.spots.length)), (133, some (.int .i64 k))] [(0, some (.cells (eventC x) true)), (1, some (.cells [] false))] 2) (some (C))) (fun C hC _ => ?_) (fun k hk ih C hC hs => ?_)
 ·have := key B (by rw [List.take_zero]; exact (ba_nilr B).symm) (by omega)
  exact this
 ·refine ok_G mkV_ok mixed [(19, [0, 1, 132, 133]), (31, [0, 1, 203, 204]), (55, [0, 1, 330, 331])] (by decide) (l_wr5 x C _ _ _) ?_
  simp only [true_and, and_true]
  refine pIfD (fun hh => absurd hh (by omega)) (fun _ => ?_)
  have e : C = B ++ bEs (vaE x 5) := by rw [hC, ← hlen, List.take_length]
  rw [e]
  exact hP
 ·refine ok_G mkV_ok mixed [(19, [0, 1, 132, 133]), (31, [0, 1, 203, 204]), (55, [0, 1, 330, 331])] (by decide) (l_wr5 x C _ _ _) ?_
  have ek : ((k : Nat) : Int).toNat = k := by omega
  have el : x.nest.spots[k] ∈ x.nest.spots := List.getElem_mem hk
  have hf := hL.2 _ (List.mem_map_of_mem el)
  simp only [vaSpot, fits, fit] at hf
  have := bText_size x.nest.spots[k].part
  have := bInt_size x.nest.spots[k].at_.x
  have := bInt_size x.nest.spots[k].at_.y
  have := bInt_size x.nest.spots[k].turn
  have ht := bEs_take (l := vaE x 5) (k := k) (by omega)
  have hX : ∀ C', C' = C ++ bVs (vaE x 5)[k] → C'.size ≤ 4000000000 + 200 * (k + 1) → OkG Tryz.prog IsW 22 argsW 1 [true, true] Post (lpC Tryz.prog 22 19) (lpK Tryz.prog 22 19) (stV [(0, some (.pointer (some ⟨0, 0, none⟩))), (1, some (.iface 84 (.pointer (some ⟨1, 0, none⟩)))), (132, some (.int .i64 x.nest.spots.length)), (133, some (.int .i64 ((k + 1 : Nat) : Int)))] [(0, some (.cells (eventC x) true)), (1, some (.cells [] false))] 2) (some (C')) := fun C' h1 h2 => ih C' (by rw [h1, hC, ht, ba_assoc]) h2
  clear ih hP hC ht
  have eV : (vaE x 5)[k] = vaSpot x.nest.spots[k] := by simp [vaE]
  rw [eV] at hX
  simp only [true_and, and_true, bT, bF, ek, wrapSucc (show k < 2 ^ 62 by omega), cell_spot hk, spotC, List.getElem?_cons_succ, List.getElem?_cons_zero, Option.getD_some, toI, toS, toB]
  refine pIfD (fun _ => ?_) (fun hh => absurd hh (by omega))
  repeat' (first | exact rfl | refine And.intro ?_ ?_ | trivial | decide | omega | exact .cons ⟨_, rfl⟩ .nil | (simp only [ba_size]; omega) | refine pIf_intro (fun hb => ?_) (fun hb => ?_) | (refine hX _ ?_ ?_ <;> first | (simp [bVs, bVa, ba_assoc, ba_nilr, vaSpot]; done) | (simp only [bVs, bVa, hb, ba_assoc, ba_nilr, vaSpot]; done) | (simp only [ba_size, one_size]; omega)))
theorem wl6 {x : Event} (hL : fitsL x 6) {Post : List Value → Option ByteArray → Prop} (B : ByteArray) (hB : B.size ≤ 4000000000) (hP : Post (eventC x) (some (B ++ bEs (vaE x 6)))) : OkG Tryz.prog IsW 22 argsW 1 [true, true] Post (lpC Tryz.prog 22 31) (lpK Tryz.prog 22 31) (stV [(0, some (.pointer (some ⟨0, 0, none⟩))), (1, some (.iface 84 (.pointer (some ⟨1, 0, none⟩)))), (203, some (.int .i64 x.saw.parts.length)), (204, some (.int .i64 0))] [(0, some (.cells (eventC x) true)), (1, some (.cells [] false))] 2) (some (B)) := by
 simp only [fitsL, shE, fits, fit, vaE, List.length_map] at hL
 have hlen : (vaE x 6).length = x.saw.parts.length := by simp [vaE]
 have key := down (n := x.saw.parts.length) (p := fun k => ∀ C, C = B ++ bEs ((vaE x 6).take k) → C.size ≤ 4000000000 + 200 * k → OkG Tryz.prog IsW 22 argsW 1 [true, true] Post (lpC Tryz.prog 22 31) (lpK Tryz.prog 22 31) (stV [(0, some (.pointer (some ⟨0, 0, none⟩))), (1, some (.iface 84 (.pointer (some ⟨1, 0, none⟩)))), (203, some (.int .i64 x.saw.parts.length)), (204, some (.int .i64 k))] [(0, some (.cells (eventC x) true)), (1, some (.cells [] false))] 2) (some (C))) (fun C hC _ => ?_) (fun k hk ih C hC hs => ?_)
 ·have := key B (by rw [List.take_zero]; exact (ba_nilr B).symm) (by omega)
  exact this
 ·refine ok_G mkV_ok mixed [(19, [0, 1, 132, 133]), (31, [0, 1, 203, 204]), (55, [0, 1, 330, 331])] (by decide) (l_wr6 x C _ _ _) ?_
  simp only [true_and, and_true]
  refine pIfD (fun hh => absurd hh (by omega)) (fun _ => ?_)
  have e : C = B ++ bEs (vaE x 6) := by rw [hC, ← hlen, List.take_length]
  rw [e]
  exact hP
 ·refine ok_G mkV_ok mixed [(19, [0, 1, 132, 133]), (31, [0, 1, 203, 204]), (55, [0, 1, 330, 331])] (by decide) (l_wr6 x C _ _ _) ?_
  have ek : ((k : Nat) : Int).toNat = k := by omega
  have el : x.saw.parts[k] ∈ x.saw.parts := List.getElem_mem hk
  have hf := hL.2 _ (List.mem_map_of_mem el)
  simp only [fits, fit] at hf
  have := bText_size x.saw.parts[k]
  have ht := bEs_take (l := vaE x 6) (k := k) (by omega)
  have hX : ∀ C', C' = C ++ bVs (vaE x 6)[k] → C'.size ≤ 4000000000 + 200 * (k + 1) → OkG Tryz.prog IsW 22 argsW 1 [true, true] Post (lpC Tryz.prog 22 31) (lpK Tryz.prog 22 31) (stV [(0, some (.pointer (some ⟨0, 0, none⟩))), (1, some (.iface 84 (.pointer (some ⟨1, 0, none⟩)))), (203, some (.int .i64 x.saw.parts.length)), (204, some (.int .i64 ((k + 1 : Nat) : Int)))] [(0, some (.cells (eventC x) true)), (1, some (.cells [] false))] 2) (some (C')) := fun C' h1 h2 => ih C' (by rw [h1, hC, ht, ba_assoc]) h2
  clear ih hP hC ht
  have eV : (vaE x 6)[k] = [.s x.saw.parts[k]] := by simp [vaE]
  rw [eV] at hX
  simp only [true_and, and_true, bT, bF, ek, wrapSucc (show k < 2 ^ 62 by omega), cell_name hk, List.getElem?_cons_succ, List.getElem?_cons_zero, Option.getD_some, toI, toS, toB]
  refine pIfD (fun _ => ?_) (fun hh => absurd hh (by omega))
  repeat' (first | exact rfl | refine And.intro ?_ ?_ | trivial | decide | omega | exact .cons ⟨_, rfl⟩ .nil | (simp only [ba_size]; omega) | refine pIf_intro (fun hb => ?_) (fun hb => ?_) | (refine hX _ ?_ ?_ <;> first | (simp [bVs, bVa, ba_assoc, ba_nilr]; done) | (simp only [bVs, bVa, hb, ba_assoc, ba_nilr]; done) | (simp only [ba_size, one_size]; omega)))
theorem wl14 {x : Event} (hL : fitsL x 14) {Post : List Value → Option ByteArray → Prop} (B : ByteArray) (hB : B.size ≤ 4000000000) (hP : Post (eventC x) (some (B ++ bEs (vaE x 14)))) : OkG Tryz.prog IsW 22 argsW 1 [true, true] Post (lpC Tryz.prog 22 55) (lpK Tryz.prog 22 55) (stV [(0, some (.pointer (some ⟨0, 0, none⟩))), (1, some (.iface 84 (.pointer (some ⟨1, 0, none⟩)))), (330, some (.int .i64 x.lift.hooks.length)), (331, some (.int .i64 0))] [(0, some (.cells (eventC x) true)), (1, some (.cells [] false))] 2) (some (B)) := by
 simp only [fitsL, shE, fits, fit, vaE, List.length_map] at hL
 have hlen : (vaE x 14).length = x.lift.hooks.length := by simp [vaE]
 have key := down (n := x.lift.hooks.length) (p := fun k => ∀ C, C = B ++ bEs ((vaE x 14).take k) → C.size ≤ 4000000000 + 200 * k → OkG Tryz.prog IsW 22 argsW 1 [true, true] Post (lpC Tryz.prog 22 55) (lpK Tryz.prog 22 55) (stV [(0, some (.pointer (some ⟨0, 0, none⟩))), (1, some (.iface 84 (.pointer (some ⟨1, 0, none⟩)))), (330, some (.int .i64 x.lift.hooks.length)), (331, some (.int .i64 k))] [(0, some (.cells (eventC x) true)), (1, some (.cells [] false))] 2) (some (C))) (fun C hC _ => ?_) (fun k hk ih C hC hs => ?_)
 ·have := key B (by rw [List.take_zero]; exact (ba_nilr B).symm) (by omega)
  exact this
 ·refine ok_G mkV_ok mixed [(19, [0, 1, 132, 133]), (31, [0, 1, 203, 204]), (55, [0, 1, 330, 331])] (by decide) (l_wr14 x C _ _ _) ?_
  simp only [true_and, and_true]
  refine pIfD (fun hh => absurd hh (by omega)) (fun _ => ?_)
  have e : C = B ++ bEs (vaE x 14) := by rw [hC, ← hlen, List.take_length]
  rw [e]
  exact hP
 ·refine ok_G mkV_ok mixed [(19, [0, 1, 132, 133]), (31, [0, 1, 203, 204]), (55, [0, 1, 330, 331])] (by decide) (l_wr14 x C _ _ _) ?_
  have ek : ((k : Nat) : Int).toNat = k := by omega
  have el : x.lift.hooks[k] ∈ x.lift.hooks := List.getElem_mem hk
  have hf := hL.2 _ (List.mem_map_of_mem el)
  simp only [vaHook, fits, fit] at hf
  have := bText_size x.lift.hooks[k].crane
  have := bInt_size x.lift.hooks[k].at_.x
  have := bInt_size x.lift.hooks[k].at_.y
  have := bInt_size x.lift.hooks[k].radius
  have ht := bEs_take (l := vaE x 14) (k := k) (by omega)
  have hX : ∀ C', C' = C ++ bVs (vaE x 14)[k] → C'.size ≤ 4000000000 + 200 * (k + 1) → OkG Tryz.prog IsW 22 argsW 1 [true, true] Post (lpC Tryz.prog 22 55) (lpK Tryz.prog 22 55) (stV [(0, some (.pointer (some ⟨0, 0, none⟩))), (1, some (.iface 84 (.pointer (some ⟨1, 0, none⟩)))), (330, some (.int .i64 x.lift.hooks.length)), (331, some (.int .i64 ((k + 1 : Nat) : Int)))] [(0, some (.cells (eventC x) true)), (1, some (.cells [] false))] 2) (some (C')) := fun C' h1 h2 => ih C' (by rw [h1, hC, ht, ba_assoc]) h2
  clear ih hP hC ht
  have eV : (vaE x 14)[k] = vaHook x.lift.hooks[k] := by simp [vaE]
  rw [eV] at hX
  simp only [true_and, and_true, bT, bF, ek, wrapSucc (show k < 2 ^ 62 by omega), cell_hook hk, hook4C, List.getElem?_cons_succ, List.getElem?_cons_zero, Option.getD_some, toI, toS, toB]
  refine pIfD (fun _ => ?_) (fun hh => absurd hh (by omega))
  repeat' (first | exact rfl | refine And.intro ?_ ?_ | trivial | decide | omega | exact .cons ⟨_, rfl⟩ .nil | (simp only [ba_size]; omega) | refine pIf_intro (fun hb => ?_) (fun hb => ?_) | (refine hX _ ?_ ?_ <;> first | (simp [bVs, bVa, ba_assoc, ba_nilr, vaHook]; done) | (simp only [bVs, bVa, hb, ba_assoc, ba_nilr, vaHook]; done) | (simp only [ba_size, one_size]; omega)))
theorem wr_G {x : Event} (h : WrOk x) (S : ByteArray) (hS : S.size ≤ 1000000000) {Post : List Value → Option ByteArray → Prop} (hX : ∀ C, C = bBody x x.kind.toNat → Post (eventC x) (some (S ++ C))) : SpecG Tryz.prog IsW 22 1 2 (hpW (eventC x)) argsW (some S) fun v hp' g' => v = .tuple #[] ∧ ∃ l, hp'.get 0 = some (.cells l true) ∧ Post l g' := by
 refine spec_G (base := [true, true]) mkV_ok isW_ds mixed (by kernel_rfl) [(19, [0, 1, 132, 133]), (31, [0, 1, 203, 204]), (55, [0, 1, 330, 331])] (by decide) (e_wr x S _ _) ?_
 have hkind := kinds h.k1 h.k2
 simp only [true_and, and_true, ba_assoc, bT, bF, Int.toNat_natCast]
 refine pIfD (fun hk => ?_) (fun n1 => ?_)
 ·clear hkind
  rw [hk] at hX
  have h3 := h.ord
  have := bText_size (bOrder x.order)
  exact ⟨x.order, rfl, h.inO, h.few, h3, by omega, hX _ rfl⟩
 refine pIfD (fun hk => ?_) (fun n2 => ?_)
 ·clear hkind
  rw [hk] at hX
  have hf := h.fitK (k := 2) hk
  simp only [shN, vaN, fits, fit] at hf
  have := bText_size x.sheet.id
  have := bText_size x.sheet.grade
  have := bInt_size x.sheet.thick
  have := bInt_size x.sheet.long
  have := bInt_size x.sheet.width
  have := bText_size x.sheet.heat
  and_intros <;> try first | omega | decide | (simp only [ba_size]; omega) | exact (hX _ (by show _ = bVs (vaN x 2) ++ bLs x 2; simp only [vaN, bVs, bVa, bLs, shE, ba_assoc, ba_nilr]))
 refine pIfD (fun hk => ?_) (fun n3 => ?_)
 ·clear hkind
  rw [hk] at hX
  have hf := h.fitK (k := 3) hk
  simp only [shN, vaN, fits, fit] at hf
  have := bText_size x.bar.id
  have := bText_size x.bar.sect
  have := bText_size x.bar.grade
  have := bInt_size x.bar.long
  have := bText_size x.bar.heat
  and_intros <;> try first | omega | decide | (simp only [ba_size]; omega) | exact (hX _ (by show _ = bVs (vaN x 3) ++ bLs x 3; simp only [vaN, bVs, bVa, bLs, shE, ba_assoc, ba_nilr]))
 refine pIfD (fun hk => ?_) (fun n4 => ?_)
 ·clear hkind
  rw [hk] at hX
  have hf := h.fitK (k := 4) hk
  simp only [shN, vaN, fits, fit] at hf
  have := bText_size x.item
  have := bText_size x.by_
  and_intros <;> try first | omega | decide | (simp only [ba_size]; omega) | exact (hX _ (by show _ = bVs (vaN x 4) ++ bLs x 4; simp only [vaN, bVs, bVa, bLs, shE, ba_assoc, ba_nilr]))
 refine pIfD (fun hk => ?_) (fun n5 => ?_)
 ·clear hkind
  rw [hk] at hX
  have hf := h.fitK (k := 5) hk
  simp only [shN, vaN, fits, fit] at hf
  have := bText_size x.nest.sheet
  have := bInt_size x.nest.gap
  have hL := h.fitLK (k := 5) hk
  have hL2 := hL
  simp only [fitsL, shE, vaE, List.length_map] at hL2
  have := bList_size x.nest.spots.length
  have hY : ∀ C, C = bVs (vaN x 5) ++ bList x.nest.spots.length → OkG Tryz.prog IsW 22 argsW 1 [true, true] Post (lpC Tryz.prog 22 19) (lpK Tryz.prog 22 19) (stV [(0, some (.pointer (some ⟨0, 0, none⟩))), (1, some (.iface 84 (.pointer (some ⟨1, 0, none⟩)))), (132, some (.int .i64 x.nest.spots.length)), (133, some (.int .i64 0))] [(0, some (.cells (eventC x) true)), (1, some (.cells [] false))] 2) (some (S ++ C)) := fun C hC => wl5 hL (S ++ C) (by rw [hC]; simp only [vaN, bVs, bVa, ba_size, ba_nilr]; omega) (by rw [ba_assoc]; exact hX _ (by rw [hC]; show _ = bVs (vaN x 5) ++ bLs x 5; simp only [bLs, shE, vaE, List.length_map, ba_assoc]))
  and_intros <;> try first | omega | decide | (simp only [ba_size]; omega)
  exact pIfN (fun hh => absurd trivial hh) (fun _ => (hY _ (by simp only [vaN, bVs, bVa, ba_assoc, ba_nilr, Int.toNat_natCast])))
 refine pIfD (fun hk => ?_) (fun n6 => ?_)
 ·clear hkind
  rw [hk] at hX
  have hf := h.fitK (k := 6) hk
  simp only [shN, vaN, fits, fit] at hf
  have := bText_size x.saw.bar
  have := bInt_size x.saw.kerf
  have hL := h.fitLK (k := 6) hk
  have hL2 := hL
  simp only [fitsL, shE, vaE, List.length_map] at hL2
  have := bList_size x.saw.parts.length
  have hY : ∀ C, C = bVs (vaN x 6) ++ bList x.saw.parts.length → OkG Tryz.prog IsW 22 argsW 1 [true, true] Post (lpC Tryz.prog 22 31) (lpK Tryz.prog 22 31) (stV [(0, some (.pointer (some ⟨0, 0, none⟩))), (1, some (.iface 84 (.pointer (some ⟨1, 0, none⟩)))), (203, some (.int .i64 x.saw.parts.length)), (204, some (.int .i64 0))] [(0, some (.cells (eventC x) true)), (1, some (.cells [] false))] 2) (some (S ++ C)) := fun C hC => wl6 hL (S ++ C) (by rw [hC]; simp only [vaN, bVs, bVa, ba_size, ba_nilr]; omega) (by rw [ba_assoc]; exact hX _ (by rw [hC]; show _ = bVs (vaN x 6) ++ bLs x 6; simp only [bLs, shE, vaE, List.length_map, ba_assoc]))
  and_intros <;> try first | omega | decide | (simp only [ba_size]; omega)
  exact pIfN (fun hh => absurd trivial hh) (fun _ => (hY _ (by simp only [vaN, bVs, bVa, ba_assoc, ba_nilr, Int.toNat_natCast])))
 refine pIfD (fun hk => ?_) (fun n7 => ?_)
 ·clear hkind
  rw [hk] at hX
  have hf := h.fitK (k := 7) hk
  simp only [shN, vaN, fits, fit] at hf
  have := bText_size x.item
  and_intros <;> try first | omega | decide | (simp only [ba_size]; omega) | exact (hX _ (by show _ = bVs (vaN x 7) ++ bLs x 7; simp only [vaN, bVs, bVa, bLs, shE, ba_assoc, ba_nilr]))
 refine pIfD (fun hk => ?_) (fun n8 => ?_)
 ·clear hkind
  rw [hk] at hX
  have hf := h.fitK (k := 8) hk
  simp only [shN, vaN, fits, fit] at hf
  have := bText_size x.item
  and_intros <;> try first | omega | decide | (simp only [ba_size]; omega) | exact (hX _ (by show _ = bVs (vaN x 8) ++ bLs x 8; simp only [vaN, bVs, bVa, bLs, shE, ba_assoc, ba_nilr]))
 refine pIfD (fun hk => ?_) (fun n12 => ?_)
 ·clear hkind
  rw [hk] at hX
  have hf := h.fitK (k := 12) hk
  simp only [shN, vaN, fits, fit] at hf
  have := bText_size x.item
  and_intros <;> try first | omega | decide | (simp only [ba_size]; omega) | exact (hX _ (by show _ = bVs (vaN x 12) ++ bLs x 12; simp only [vaN, bVs, bVa, bLs, shE, ba_assoc, ba_nilr]))
 refine pIfD (fun hk => ?_) (fun n16 => ?_)
 ·clear hkind
  rw [hk] at hX
  have hf := h.fitK (k := 16) hk
  simp only [shN, vaN, fits, fit] at hf
  have := bText_size x.item
  and_intros <;> try first | omega | decide | (simp only [ba_size]; omega) | exact (hX _ (by show _ = bVs (vaN x 16) ++ bLs x 16; simp only [vaN, bVs, bVa, bLs, shE, ba_assoc, ba_nilr]))
 refine pIfD (fun hk => ?_) (fun n9 => ?_)
 ·clear hkind
  rw [hk] at hX
  have hf := h.fitK (k := 9) hk
  simp only [shN, vaN, fits, fit] at hf
  have := bText_size x.item
  have := bText_size x.of_
  have := bText_size x.by_
  and_intros <;> try first | omega | decide | (simp only [ba_size]; omega) | exact (hX _ (by show _ = bVs (vaN x 9) ++ bLs x 9; simp only [vaN, bVs, bVa, bLs, shE, ba_assoc, ba_nilr]))
 refine pIfD (fun hk => ?_) (fun n11 => ?_)
 ·clear hkind
  rw [hk] at hX
  have hf := h.fitK (k := 11) hk
  simp only [shN, vaN, fits, fit] at hf
  have := bText_size x.item
  have := bText_size x.of_
  have := bText_size x.by_
  and_intros <;> try first | omega | decide | (simp only [ba_size]; omega) | exact (hX _ (by show _ = bVs (vaN x 11) ++ bLs x 11; simp only [vaN, bVs, bVa, bLs, shE, ba_assoc, ba_nilr]))
 refine pIfD (fun hk => ?_) (fun n10 => ?_)
 ·clear hkind
  rw [hk] at hX
  have hf := h.fitK (k := 10) hk
  simp only [shN, vaN, fits, fit] at hf
  have := bText_size x.item
  have := bInt_size x.n
  repeat' (first | exact rfl | refine And.intro ?_ ?_ | trivial | decide | omega | exact .cons ⟨_, rfl⟩ .nil | (simp only [ba_size]; omega) | exact pIfN (fun hh => absurd rfl hh) (fun _ => ⟨trivial, (hX _ (by show _ = bVs (vaN x 10) ++ bLs x 10; simp only [vaN, bVs, bVa, bLs, shE, ba_assoc, ba_nilr, hb]))⟩) | exact pIfN (fun hh => absurd rfl hh) (fun _ => (hX _ (by show _ = bVs (vaN x 10) ++ bLs x 10; simp only [vaN, bVs, bVa, bLs, shE, ba_assoc, ba_nilr, hb]))) | refine pIf_intro (fun hb => ?_) (fun hb => ?_) | exact (hX _ (by show _ = bVs (vaN x 10) ++ bLs x 10; simp only [vaN, bVs, bVa, bLs, shE, ba_assoc, ba_nilr, hb])))
 refine pIfD (fun hk => ?_) (fun n13 => ?_)
 ·clear hkind
  rw [hk] at hX
  have hf := h.fitK (k := 13) hk
  simp only [shN, vaN, fits, fit] at hf
  have := bText_size x.weig.block
  have := bInt_size x.weig.mass
  have := bInt_size x.weig.centre.x
  have := bInt_size x.weig.centre.y
  have := bInt_size x.weig.centre.z
  have := bInt_size x.weig.sigma
  and_intros <;> try first | omega | decide | (simp only [ba_size]; omega) | exact (hX _ (by show _ = bVs (vaN x 13) ++ bLs x 13; simp only [vaN, bVs, bVa, bLs, shE, ba_assoc, ba_nilr]))
 refine pIfD (fun hk => ?_) (fun n14 => ?_)
 ·clear hkind
  rw [hk] at hX
  have hf := h.fitK (k := 14) hk
  simp only [shN, vaN, fits, fit] at hf
  have := bText_size x.lift.block
  have hL := h.fitLK (k := 14) hk
  have hL2 := hL
  simp only [fitsL, shE, vaE, List.length_map] at hL2
  have := bList_size x.lift.hooks.length
  have hY : ∀ C, C = bVs (vaN x 14) ++ bList x.lift.hooks.length → OkG Tryz.prog IsW 22 argsW 1 [true, true] Post (lpC Tryz.prog 22 55) (lpK Tryz.prog 22 55) (stV [(0, some (.pointer (some ⟨0, 0, none⟩))), (1, some (.iface 84 (.pointer (some ⟨1, 0, none⟩)))), (330, some (.int .i64 x.lift.hooks.length)), (331, some (.int .i64 0))] [(0, some (.cells (eventC x) true)), (1, some (.cells [] false))] 2) (some (S ++ C)) := fun C hC => wl14 hL (S ++ C) (by rw [hC]; simp only [vaN, bVs, bVa, ba_size, ba_nilr]; omega) (by rw [ba_assoc]; exact hX _ (by rw [hC]; show _ = bVs (vaN x 14) ++ bLs x 14; simp only [bLs, shE, vaE, List.length_map, ba_assoc]))
  and_intros <;> try first | omega | decide | (simp only [ba_size]; omega)
  exact pIfN (fun hh => absurd trivial hh) (fun _ => (hY _ (by simp only [vaN, bVs, bVa, ba_assoc, ba_nilr, Int.toNat_natCast])))
 refine pIfD (fun hk => ?_) (fun n15 => ?_)
 ·clear hkind
  rw [hk] at hX
  have hf := h.fitK (k := 15) hk
  simp only [shN, vaN, fits, fit] at hf
  have := bText_size x.permit.id
  have := bInt_size x.permit.kind
  have := bInt_size x.permit.time.a
  have := bInt_size x.permit.time.b
  and_intros <;> try first | omega | decide | (simp only [ba_size]; omega) | exact (hX _ (by show _ = bVs (vaN x 15) ++ bLs x 15; simp only [vaN, bVs, bVa, bLs, shE, ba_assoc, ba_nilr]))
 have hz := hX ⟨#[]⟩ (by
  have : x.kind = 17 ∨ x.kind = 18 := by omega
  rcases this with hk | hk <;> rw [hk] <;> exact (ba_nil _).symm)
 rw [ba_nilr] at hz
 exact hz
theorem ok_wr {x : Event} (h : WrOk x) (S : ByteArray) (hS : S.size ≤ 1000000000) : SpecG Tryz.prog IsW 22 1 2 (hpW (eventC x)) argsW (some S) fun v hp' g1 => v = .tuple #[] ∧ hp'.get 0 = some (.cells (eventC x) true) ∧ g1 = some (S ++ bBody x x.kind.toNat) :=
 specG_mono (wr_G (Post := fun l g => l = eventC x ∧ g = some (S ++ bBody x x.kind.toNat)) h S hS fun C hC => ⟨rfl, by rw [hC]⟩) (fun v hp g ⟨q1, l, q2, q3, q4⟩ => ⟨q1, by rw [q2, q3], q4⟩)
def V_wr : VisC := fun E t g g' => t = 84 ∧ ∃ x : Event, E = eventC x ∧ WrOk x ∧ g.size ≤ 1000000000 ∧ g' = g ++ bBody x x.kind.toNat
theorem vis_wr : VisOk 22 V_wr := by
 rintro E t g g' ⟨rfl, x, rfl, h, hs, rfl⟩
 exact ok_wr h g hs
def callEn : PCall := tabFr Tryz.prog [⟨10, c_check⟩] noP
def mkEn (kb : Nat) : GCall (Option ByteArray) := visCall 22 V_wr kb (mkW [] callW kb)
theorem e_enc (x : Event) (H : HT) (Post : PX) : (fun _ => vcW callEn mkEn 14 [eventV x]) H Post = (T4 (((T32 (T8 (True))) ∧ True) ∧ ∃ (x_1 : Event), eqL [Value.agg (evK x.kind x).toArray] [eventV x_1] ∧ ShortEv x_1 ∧ InOrder x_1.order ∧ FewO x_1.order ∧ x_1.item.size < 16777000 ∧ T2 (True ∧ pIf (!decide (checkE x_1 = 0)) (T2 (True ∧ (T2 (True ∧ True)) ∧ true = true ∧ Post (Out.ret (Value.tuple #[vz, vi (checkE x_1)])) [])) (T4 (True ∧ (-9223372036854775808 ≤ x.kind ∧ x.kind < 9223372036854775808) ∧ ((vi x.at_ = vi x.at_ ∧ True) ∧ True) ∧ (-9223372036854775808 ≤ x.at_ ∧ x.at_ < 9223372036854775808) ∧ True ∧ ByteArray.size (bInt x.kind) + ByteArray.size (bInt x.at_) ≤ 9223372036854775807 ∧ 0 + ByteArray.size (bInt x.kind ++ bInt x.at_) ≤ 140737488355328 ∧ T2 (∃ (g' : ByteArray), (84 = 84 ∧ ∃ (x_2 : Event), eqL (evK x.kind x) (evK x_2.kind x_2) ∧ WrOk x_2 ∧ ByteArray.size (ByteArray.empty ++ (bInt x.kind ++ bInt x.at_)) ≤ 1000000000 ∧ g' = ByteArray.empty ++ (bInt x.kind ++ bInt x.at_) ++ bBody x_2 (Int.toNat x_2.kind)) ∧ True ∧ 0 < g'.size ∧ T2 ((T2 (True ∧ True)) ∧ true = true ∧ Post (Out.ret (Value.tuple #[vs g', vi 0])) []))))))) := by kernel_rfl
theorem check0 {x : Event} (h : checkE x = 0) : 1 ≤ x.kind ∧ x.kind ≤ 18 ∧ 0 ≤ x.at_ ∧ x.at_ ≤ 1048576 ∧ x = plainK x.kind x ∧ longK x.kind x = false ∧ farK x.kind x = false := by
 unfold checkE at h
 split at h
 ·cases h
 rename_i hk
 split at h
 ·cases h
 rename_i ha
 split at h
 ·cases h
 rename_i hp
 split at h
 ·cases h
 split at h
 ·cases h
 rename_i hl
 split at h
 ·cases h
 rename_i hf
 have hk := Classical.not_not.1 hk
 exact ⟨hk.1, hk.2, by omega, by omega, Classical.not_not.1 hp, by simpa using hl, by simpa using hf⟩
def encR (x : Event) : ByteArray × Int := if checkE x = 0 then (bEv x, 0) else (⟨#[]⟩, checkE x)
def c_enc (args : List Value) (Post : Value → Prop) : Prop := ∃ x : Event, args = [eventV x] ∧ ShortEv x ∧ InOrder x.order ∧ FewO x.order ∧ x.item.size < 16777000 ∧ (bOrder x.order).size ≤ 16000000 ∧ Post (.tuple #[.string (encR x).1, .int .i64 (encR x).2])
theorem callEn_ok : PCallOk Tryz.prog callEn := tabFr_ok (by
 intro e he
 simp only [List.mem_cons, List.not_mem_nil, or_false] at he
 subst he
 exact ok_check) noP_ok
theorem mkEn_ok (W0 : Base) (c kb : Nat) : GCallOk Tryz.prog (HidO W0 c) kb (c, 0, 2) (mkEn kb) := visCall_ok vis_wr (mkW_ok mixed callW_ok W0 c kb)
theorem bInt_pos (n : Int) : 0 < (bInt n).size := by
 unfold bInt
 have : ∀ k v, 0 < (hd k v).length := fun k v => by
  unfold hd
  split
  ·simp
  split
  ·simp
  split
  ·simp
  split <;> simp
 split <;> (rw [str_size]; exact this _ _)
theorem ok_enc : EntOk Tryz.prog ⟨14, c_enc⟩ := by
 rintro args Post ⟨x, rfl, hs, hi, hf, hz, hb, h⟩
 refine B.pure_of_X (spec_W callEn_ok mkEn_ok mixed (by kernel_rfl) (Eq.mpr (e_enc x (fun _ _ _ => True) _) ?_))
 have hC : ¬ checkE x = 0 → B.retV Post (.ret (.tuple #[.string ⟨#[]⟩, .int .i64 (checkE x)])) [] := fun c => by
  unfold encR at h
  rw [if_neg c] at h
  exact h
 have hO : checkE x = 0 → B.retV Post (.ret (.tuple #[.string (bEv x), .int .i64 0])) [] := fun c => by
  unfold encR at h
  rw [if_pos c] at h
  exact h
 clear h
 simp only [true_and, and_true]
 refine ⟨x, rfl, hs, hi, hf, hz, pIfN (fun c => ?_) (fun c => ?_)⟩
 ·repeat' (first | exact rfl | refine And.intro ?_ ?_ | trivial | exact hC c)
 obtain ⟨k1, k2, a1, a2, hp, hl, hfr⟩ := check0 c
 have i1 := bInt_size x.kind
 have i2 := bInt_size x.at_
 have i3 := bInt_pos x.kind
 have e0 : ByteArray.empty ++ (bInt x.kind ++ bInt x.at_) = bInt x.kind ++ bInt x.at_ := ba_nil _
 have hw : WrOk x := ⟨k1, k2, fits_all k1 k2 hl hfr, hi, hf, hb⟩
 have hO := hO c
 repeat' (first | exact rfl | refine And.intro ?_ ?_ | trivial | omega | (simp only [ba_size]; omega) | refine ⟨bEv x, ⟨x, rfl, hw, ?_, ?_⟩, ?_⟩ | (rw [e0]; rfl) | (rw [e0]; simp only [ba_size]; omega) | (unfold bEv; simp only [ba_size]; omega) | exact hO)
def inlW : List FuncId := inlA ++ [36, 64, 78, 80, 81, 90, 91, 145, 146, 147, 149,
 63, 79, 141, 142, 143, 144]
def baseW : PCall := xtabCall [⟨14, c_EncA⟩] baseA
theorem baseW_ok : PCallOk Tryz.prog baseW := xtabCall_ok (by
 intro e he
 simp only [List.mem_cons, List.not_mem_nil, or_false] at he
 subst he
 exact ok_EncA) baseA_ok
def innerW : PCall := inlP Tryz.prog inlW baseW 12
theorem innerW_ok : PCallOk Tryz.prog innerW := inlP_ok mixed baseW_ok 12
def callWb : PCall := inlP Tryz.prog (16 :: inlW) (inlD Tryz.prog [37] innerW baseW) 12
theorem callWb_ok : PCallOk Tryz.prog callWb := inlP_ok mixed (inlD_ok mixed innerW_ok baseW_ok) 12
abbrev nmA : Array Value := #[Value.agg #[Value.string (ByteArray.mk #[]), Value.string (ByteArray.mk #[111, 114, 100, 101, 114]), Value.string (ByteArray.mk #[115, 104, 101, 101, 116]), Value.string (ByteArray.mk #[98, 97, 114]), Value.string (ByteArray.mk #[98, 117, 121]), Value.string (ByteArray.mk #[110, 101, 115, 116]), Value.string (ByteArray.mk #[115, 97, 119]), Value.string (ByteArray.mk #[115, 99, 114, 97, 112]), Value.string (ByteArray.mk #[102, 105, 116]), Value.string (ByteArray.mk #[119, 101, 108, 100]), Value.string (ByteArray.mk #[105, 110, 115, 112, 101, 99, 116]), Value.string (ByteArray.mk #[114, 101, 112, 97, 105, 114]), Value.string (ByteArray.mk #[112, 97, 99, 107, 97, 103, 101]), Value.string (ByteArray.mk #[119, 101, 105, 103, 104]), Value.string (ByteArray.mk #[101, 114, 101, 99, 116]), Value.string (ByteArray.mk #[112, 101, 114, 109, 105, 116]), Value.string (ByteArray.mk #[116, 101, 115, 116]), Value.string (ByteArray.mk #[108, 97, 117, 110, 99, 104]), Value.string (ByteArray.mk #[100, 101, 108, 105, 118, 101, 114])]]
abbrev bx (s : ByteArray) (a b : Nat) : ByteArray := s.extract a b
abbrev bz (s : ByteArray) : Nat := s.size
abbrev bo (w : Nat) (i : Int) : BitVec w := BitVec.ofInt w i
theorem e_awake  (H : HT) (Post : PX) : vcX Tryz.prog callWb 9 [] [] [] H Post = (let t20 := [vz, vi 0, nS, vz, vi 0, nS, vz, vi 0, vi 0, vi 0, vi 0, vi 0, vi 0, nS, vz, nS, vz, vi 0, vi 0, vi 0]; let t3 := vz :: vz :: vi 0 :: vb false :: vz :: nS :: vz :: vz :: vi 0 :: vi 0 :: vi 0 :: vz :: vz :: vz :: vz :: vi 0 :: vz :: t20; let h20 := fun (t : List Value) => vi 17 :: vi 5 :: vz :: vz :: vz :: vi 0 :: vb false :: vz :: nS :: vz :: vz :: vi 0 :: vi 0 :: vi 0 :: vz :: vz :: vz :: vz :: vi 0 :: vz :: t; let q13 := [Value.agg #[vz, tree 38 0 #[]]]; let q12 := IntKind.bits IntKind.u8; let q8 := ByteArray.mk #[8, 24, 100, 66, 80, 49]; let q3 := bx q8 (Int.toNat 1) (bz q8); let q9 := (w64 (IntKind.wrap IntKind.u8 (↑(BitVec.toNat (bo q12 (↑(UInt8.toNat (Array.getD (ByteArray.data q3) (Int.toNat 0) 0)) : Int) &&& bo q12 31)) : Int)) - 24); let q2 := 1 + w64 (1 * 2 ^ min (Int.toNat (w64 q9)) (IntKind.bits IntKind.i64)); let q11 := bx q3 (Int.toNat (w64 q2)) (bz q3); let q5 := (IntKind.wrap IntKind.u64 (w64 (IntKind.wrap IntKind.u8 (↑(BitVec.toNat (bo q12 (↑(UInt8.toNat (Array.getD (ByteArray.data q11) (Int.toNat 0) 0)) : Int) &&& bo q12 31)) : Int)))); let q1 := bx (bx q11 (Int.toNat 1) (bz q11)) 0 (Int.toNat (w64 q5)); let q4 := ((↑(Lib.countByte (Array.toList (ByteArray.data q1)) 46) : Int) + 1); let q10 := (if w64 ((↑(bz q1) : Int) + 1) < w64 q4 then w64 ((↑(bz q1) : Int) + 1) else w64 q4); let q7 := (Value.agg #[vz, vi 0, vi 0, vi 0, vi 0, vi 0, vi 0, nS] = Value.agg #[vz, vi 0, vi 0, vi 0, vi 0, vi 0, vi 0, nS] ∧ True) ∧ True; let q6 := (IntKind.wrap IntKind.u64 (w64 (IntKind.wrap IntKind.u8 (↑(BitVec.toNat (bo q12 (↑(UInt8.toNat (Array.getD (ByteArray.data q8) (Int.toNat 0) 0)) : Int) &&& bo q12 31)) : Int)))); T2 (eqL [Value.agg (h20 t20).toArray] [Value.agg #[nilV (vi evtL.kind), nilV (vi evtL.at_), nilV (vs evtL.item), nilV (vs evtL.of_), nilV (vs evtL.by_), nilV (vi evtL.n), nilV (vb evtL.pass), nilV (vs evtL.order.id), nilV (tree 38 0 (encL evtL.order.edits)), nilV (vs evtL.sheet.id), nilV (vs evtL.sheet.grade), nilV (vi evtL.sheet.thick), nilV (vi evtL.sheet.long), nilV (vi evtL.sheet.width), nilV (vs evtL.sheet.heat), nilV (vs evtL.bar.id), nilV (vs evtL.bar.sect), nilV (vs evtL.bar.grade), nilV (vi evtL.bar.long), nilV (vs evtL.bar.heat), nilV (vs evtL.nest.sheet), nilV (vi evtL.nest.gap), nilV (tree 5 0 (encL evtL.nest.spots)), nilV (vs evtL.saw.bar), nilV (vi evtL.saw.kerf), nilV (tree 1 0 (encL evtL.saw.parts)), nilV (vs evtL.weig.block), nilV (vi evtL.weig.at_), nilV (vi evtL.weig.mass), nilV (vi evtL.weig.centre.x), nilV (vi evtL.weig.centre.y), nilV (vi evtL.weig.centre.z), nilV (vi evtL.weig.sigma), nilV (tree 1 0 (encL evtL.weig.parts)), nilV (vs evtL.lift.block), nilV (tree 4 0 (encL evtL.lift.hooks)), nilV (vs evtL.permit.id), nilV (vi evtL.permit.kind), nilV (vi evtL.permit.time.a), nilV (vi evtL.permit.time.b)]] ∧ 0 = 0 ∧ T4 (T2 (eqL [Value.agg (vi 8 :: vi 100 :: vs (ByteArray.mk #[80, 49]) :: t3).toArray] [Value.agg #[nilV (vi evtF.kind), nilV (vi evtF.at_), nilV (vs evtF.item), nilV (vs evtF.of_), nilV (vs evtF.by_), nilV (vi evtF.n), nilV (vb evtF.pass), nilV (vs evtF.order.id), nilV (tree 38 0 (encL evtF.order.edits)), nilV (vs evtF.sheet.id), nilV (vs evtF.sheet.grade), nilV (vi evtF.sheet.thick), nilV (vi evtF.sheet.long), nilV (vi evtF.sheet.width), nilV (vs evtF.sheet.heat), nilV (vs evtF.bar.id), nilV (vs evtF.bar.sect), nilV (vs evtF.bar.grade), nilV (vi evtF.bar.long), nilV (vs evtF.bar.heat), nilV (vs evtF.nest.sheet), nilV (vi evtF.nest.gap), nilV (tree 5 0 (encL evtF.nest.spots)), nilV (vs evtF.saw.bar), nilV (vi evtF.saw.kerf), nilV (tree 1 0 (encL evtF.saw.parts)), nilV (vs evtF.weig.block), nilV (vi evtF.weig.at_), nilV (vi evtF.weig.mass), nilV (vi evtF.weig.centre.x), nilV (vi evtF.weig.centre.y), nilV (vi evtF.weig.centre.z), nilV (vi evtF.weig.sigma), nilV (tree 1 0 (encL evtF.weig.parts)), nilV (vs evtF.lift.block), nilV (tree 4 0 (encL evtF.lift.hooks)), nilV (vs evtF.permit.id), nilV (vi evtF.permit.kind), nilV (vi evtF.permit.time.a), nilV (vi evtF.permit.time.b)]] ∧ 0 = 0 ∧ T32 (T16 (T8 (T4 (True ∧ (toI (vi 0) ≤ 0 ∧ toI (vi 0) < (↑(bz q8) : Int)) ∧ toI (vi 0) ≤ 5 ∧ T4 (T2 (True ∧ (toI (vi 0) ≤ 0 ∧ toI (vi 0) < (↑(bz q8) : Int)) ∧ T32 (T2 (toI (vi 0) ≤ 63 ∧ T16 (T8 (2 ≤ 2 ∧ T8 (True ∧ (True ∧ toI (vi 0) ≤ 1 ∧ 1 ≤ 6 ∧ 6 ≤ 6) ∧ T2 (True ∧ 1 ≤ 2 ∧ T2 (True ∧ 1 ≤ 40 ∧ T32 (T16 (T8 (True ∧ (toI (vi 0) ≤ 0 ∧ toI (vi 0) < (↑(bz q3) : Int)) ∧ toI (vi 0) ≤ 5 ∧ T4 (T2 (True ∧ (toI (vi 0) ≤ 0 ∧ toI (vi 0) < (↑(bz q3) : Int)) ∧ T16 (toI (vi 0) ≤ w64 q9 ∧ T16 ((toI (vi 0) ≤ w64 q2 ∧ toI (vi 0) ≤ 1 ∧ 1 ≤ 2 ∧ 2 ≤ 5) ∧ T4 ((toI (vi 0) ≤ 0 ∧ toI (vi 0) < (↑(bz (bx q3 (Int.toNat 1) (Int.toNat (w64 q2)))) : Int)) ∧ T2 (True ∧ toI (vi 0) ≤ 8 ∧ T8 (T4 (T2 (True ∧ (toI (vi 0) ≤ w64 q2 ∧ True ∧ 0 ≤ 2 ∧ 2 ≤ 5) ∧ T2 (toI (vi 0) ≤ 5 ∧ T8 (T2 (toI (vi 0) ≤ 0 ∧ toI (vi 0) ≤ IntKind.wrap IntKind.u64 (8 * 2 ^ min (Int.toNat 0) (IntKind.bits IntKind.u64)) ∧ T8 (True ∧ 1 ≤ 1 ∧ 1 ≤ 33554432 ∧ true = true ∧ 1 = 1 ∧ T2 (toI (vi 0) ≤ 0 ∧ T4 (T2 (True ∧ toI (vi 0) ≤ w64 (w64 (8 * 2 ^ min (Int.toNat 0) (IntKind.bits IntKind.i64)) - 8) ∧ T2 (1 ≤ 1 ∧ 2 ≤ 33554432 ∧ true = true ∧ 1 = 1 ∧ 1 = 1 ∧ T8 (((vs (bx q8 1 6) = vs (bx q8 1 6) ∧ True) ∧ True) ∧ (2 ≤ 2 ∧ AllU8 [Value.int IntKind.u8 (IntKind.wrap IntKind.u8 (↑24 : Int)), Value.int IntKind.u8 (IntKind.wrap IntKind.u8 (Int.fdiv (IntKind.wrap IntKind.u64 (↑100 : Int)) (2 ^ 0)))]) ∧ T16 (T4 (True ∧ toI (vi 0) ≤ 63 ∧ T16 (T8 (2 ≤ 2 ∧ T8 (True ∧ (True ∧ toI (vi 0) ≤ w64 q2 ∧ 2 ≤ 5 ∧ 5 ≤ 5) ∧ T2 (True ∧ 1 ≤ 2 ∧ T2 (True ∧ 2 ≤ 40 ∧ T32 (T32 (T16 (T4 (T2 (True ∧ (toI (vi 0) ≤ 0 ∧ toI (vi 0) < (↑(bz q11) : Int)) ∧ toI (vi 0) ≤ 5 ∧ T4 (T2 (True ∧ (toI (vi 0) ≤ 0 ∧ toI (vi 0) < (↑(bz q11) : Int)) ∧ T32 (T16 (T8 (T4 (T2 (2 ≤ 2 ∧ T8 (True ∧ (True ∧ toI (vi 0) ≤ 1 ∧ 1 ≤ 3 ∧ 3 ≤ 3) ∧ T2 (True ∧ 1 ≤ 2 ∧ T8 (T4 ((toI (vi 0) ≤ w64 q5 ∧ True ∧ 0 ≤ 2 ∧ 2 ≤ 2) ∧ T8 ((True ∧ toI (vi 0) ≤ w64 q5 ∧ 2 ≤ 2 ∧ 2 ≤ 2) ∧ T2 (True ∧ 1 ≤ 2 ∧ T2 (True ∧ 3 ≤ 40 ∧ T32 (T16 (T8 (T4 (40 ≤ 40 ∧ True ∧ 1 ≤ 1 ∧ T4 (T2 (True ∧ 40 ≤ 40 ∧ T16 ((toI (vi 0) ≤ w64 q6 ∧ toI (vi (w64 q6)) < (↑19 : Int)) ∧ vs (ByteArray.mk #[102, 105, 116]) = vs (toS (cellAt nmA 0 (0 + 8))) ∧ T32 (T8 (T4 (T2 (True ∧ 3 ≤ 40 ∧ T2 (1 ≤ 40 ∧ True ∧ 2 ≤ 40 ∧ T8 (T2 (True ∧ 8 ≤ 8 ∧ q7 ∧ 8 ≤ 8 ∧ T32 (T32 (T32 (T32 (T32 (T32 (T32 (T8 (T2 (((T2 (True)) ∧ True) ∧ ∃ (o : Order2), eqL q13 [order2V o] ∧ InOrder o ∧ FewO o ∧ ((Value.agg #[vz, nS] = Value.agg #[vz, nS] ∧ True) ∧ True) ∧ ((T2 (True)) ∧ True) ∧ ∃ (o_1 : Order2), eqL q13 [order2V o_1] ∧ InOrder o_1 ∧ FewO o_1 ∧ T2 (pIf (decide (bOrder o = bOrder o_1)) (T32 (T8 ((T2 (True)) ∧ ByteArray.mk #[46] = dot ∧ T8 (True ∧ ((toI (vi 0) ≤ if w64 ((↑(bz q1) : Int) + 1) < w64 q4 then w64 ((↑(bz q1) : Int) + 1) else w64 q4) ∧ (toI (vi q10) ≤ if w64 ((↑(bz q1) : Int) + 1) < w64 q4 then w64 ((↑(bz q1) : Int) + 1) else w64 q4) ∧ toI (vi q10) ≤ 2 ^ 25) ∧ T8 (T2 (True ∧ (toI (vi 0) ≤ 0 ∧ toI (vi 0) < (↑(Int.toNat q10) : Int)) ∧ 1 ≤ 1 ∧ T2 (True ∧ (toI (vi 0) ≤ w64 (0 + 1) ∧ True ∧ 0 ≤ 1 ∧ 1 ≤ 1) ∧ T8 (T2 (True ∧ (toI (vi 0) ≤ 0 ∧ toI (vi 0) < (↑(Int.toNat (w64 (0 + 1)) - 0) : Int)) ∧ T32 (T32 (T32 (T32 (T16 (T8 (T2 (True ∧ 1 ≤ 2 ∧ T8 (T4 (40 ≤ 40 ∧ T4 (True ∧ 40 ≤ 40 ∧ T32 (T4 (T2 ((toI (vi 0) ≤ 14 ∧ toI (vi 14) < (↑19 : Int)) ∧ vs (ByteArray.mk #[101, 114, 101, 99, 116]) = vs (toS (cellAt nmA 0 (0 + 14))) ∧ T16 (True ∧ (toI (vi 0) ≤ 8 ∧ toI (vi 8) < (↑19 : Int)) ∧ vs (ByteArray.mk #[102, 105, 116]) = vs (toS (cellAt nmA 0 (0 + 8))) ∧ T32 (T8 (T4 (T2 (True ∧ 3 ≤ 40 ∧ T2 (1 ≤ 40 ∧ True ∧ 2 ≤ 40 ∧ T8 (T2 (True ∧ 8 ≤ 8 ∧ q7 ∧ 8 ≤ 8 ∧ T32 (T32 (T4 (8 ≤ 8 ∧ q7 ∧ 8 ≤ 8 ∧ T32 (T32 (T32 (T32 (T32 (T32 (T32 (T8 (T2 (((T2 (True)) ∧ True) ∧ ∃ (o : Order2), eqL q13 [order2V o] ∧ InOrder o ∧ FewO o ∧ ((Value.agg #[vz, nS] = Value.agg #[vz, nS] ∧ True) ∧ True) ∧ ((T2 (True)) ∧ True) ∧ ∃ (o_2 : Order2), eqL q13 [order2V o_2] ∧ InOrder o_2 ∧ FewO o_2 ∧ T2 (pIf (decide (bOrder o = bOrder o_2)) (T4 ((True ∧ True) ∧ true = true ∧ Post (Out.ret (vb true)) [])) (T4 ((True ∧ True) ∧ true = true ∧ Post (Out.ret (vb false)) []))))))))))))))))))))))))))))))))))))))))))))) (T8 (T2 (True ∧ 40 ≤ 40 ∧ T4 (True ∧ 40 ≤ 40 ∧ T16 (T8 (T2 ((True ∧ True) ∧ true = true ∧ Post (Out.ret (vb false)) []))))))))))))))))))))))))))))))))))))))))))))))))))))))))))))))))))))))))))))))))))))))))))))))) := by kernel_rfl
theorem spec_awake : SpecX Tryz.prog 9 0 (hpOf []) [] (xpost 0 fun r c => r = .ret (.bool true) ∧ c = []) := by
 refine spec_X (conts := []) callWb_ok mixed (by kernel_rfl) (by kernel_rfl) [] (e_awake _ _) ?_
 repeat' (first
  | exact rfl
  | refine And.intro ?_ ?_
  | refine ⟨⟨⟨#[]⟩, []⟩, ?_, zero_inO, zero_fewO, ?_⟩
  | refine pIf_same ?_
  | trivial
  | exact AllU8.nil
  | refine AllU8.cons ⟨_, rfl⟩ ?_
  | decide
  | kernel_rfl)
def c_awake (args : List Value) (Post : Value → Prop) : Prop := args = [] ∧ Post (.bool true)
theorem ok_awake : EntOk Tryz.prog ⟨9, c_awake⟩ := by
 rintro args Post ⟨rfl, h⟩
 refine B.pure_of_X ?_
 intro W ρ w args' h1 h2 h3
 refine (spec_awake W ρ w args' h1 h2 h3).mono fun e w' ⟨r, hp', nx', ρ', g1, g2⟩ => ⟨r, hp', nx', ρ', ?_, g2⟩
 unfold xpost at g1 ⊢
 split at g1
 ·obtain ⟨k1, rfl, rfl⟩ := g1
  exact ⟨k1, h⟩
 ·exact g1.elim
end Go.Proofs.YtegjnjmimfgijaaGreatDoor
