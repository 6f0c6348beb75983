/-
  Put together out of several texts, each in its own namespace's block. Conditions: as each theorem states them.
-/
import Derived.Test.YtegjnjmimfgijaaGreatDoorQTf
import Derived.Test.YtegjnjmimfgijaaGreatDoorQVis
import Derived.Test.YtegjnjmimfgijaaGreatDoorQVc
import Derived.Test.YtegjnjmimfgijaaGreatDoorQSw
noncomputable section
namespace Go.Proofs.YtegjnjmimfgijaaGreatDoor
open Go Go.RowKit
set_option maxRecDepth 100000
set_option maxHeartbeats 8000000
theorem specG_mono {P : Program} {Is : (Base → Option ByteArray → Prop) → Nat × Nat × Nat → Prop} {f : FuncId} {kb N : Nat} {hp : Tr AObj} {args : List Value} {g : Option ByteArray} {Post Post' : Value → Tr AObj → Option ByteArray → Prop} (h : SpecG P Is f kb N hp args g Post) (k : ∀ v hp g, Post v hp g → Post' v hp g) : SpecG P Is f kb N hp args g Post' := by
 intro I kx hIs W ρ w args' hI hkx hrel hargs
 refine (h I kx hIs W ρ w args' hI hkx hrel hargs).mono ?_
 rintro e w' ⟨v, v', hp', nx', g', ρ', W', hp0, r⟩
 exact ⟨v, v', hp', nx', g', ρ', W', k _ _ _ hp0, r⟩
theorem isW_ds (I : Base → Option ByteArray → Prop) (kx : Nat × Nat × Nat) (h : IsW I kx) (W : Base) (D : List Deferred) (g : Option ByteArray) (hI : I W g) : I ⟨W.w, W.mu, W.f0, D⟩ g := by
 obtain ⟨W0, c, rfl, rfl⟩ := h
 exact HidO.ds W D g hI
structure WrOk (x : Event) : Prop where
 k1 : 1 ≤ x.kind
 k2 : x.kind ≤ 18
 fit : fits (shN x.kind.toNat) (vaN x x.kind.toNat) ∧ fitsL x x.kind.toNat
 inO : InOrder x.order
 few : FewO x.order
 ord : (bOrder x.order).size ≤ 16000000
theorem WrOk.fitK {x : Event} (h : WrOk x) {k : Nat} (hk : x.kind = k) : fits (shN k) (vaN x k) := by
 have := h.fit.1
 rw [hk] at this
 exact this
theorem WrOk.fitLK {x : Event} (h : WrOk x) {k : Nat} (hk : x.kind = k) : fitsL x k := by
 have := h.fit.2
 rw [hk] at this
 exact this
theorem bT : bytesL [.int .u8 245] = bBool true := rfl
theorem bF : bytesL [.int .u8 244] = bBool false := rfl
theorem one_size {b : Bool} : (bBool b).size = 1 := by cases b <;> rfl
theorem wl5 {x : Event} (hL : fitsL x 5) {Post : List Value → Option ByteArray → Prop} (B : ByteArray) (hB : B.size ≤ 4000000000) (hP : Post (eventC x) (some (B ++ bEs (vaE x 5)))) : OkG Tryz.prog IsW 22 argsW 1 [true, true] Post (lpC Tryz.prog 22 19) (lpK Tryz.prog 22 19) (stV [(0, some (.pointer (some ⟨0, 0, none⟩))), (1, some (.iface 84 (.pointer (some ⟨1, 0, none⟩)))), (132, some (.int .i64 x.nest.spots.length)), (133, some (.int .i64 0))] [(0, some (.cells (eventC x) true)), (1, some (.cells [] false))] 2) (some (B)) := by
 simp only [fitsL, shE, fits, fit, vaE, List.length_map] at hL
 have hlen : (vaE x 5).length = x.nest.spots.length := by simp [vaE]
 have key := down (n := x.nest.spots.length) (p := fun k => ∀ C, C = B ++ bEs ((vaE x 5).take k) → C.size ≤ 4000000000 + 200 * k → OkG Tryz.prog IsW 22 argsW 1 [true, true] Post (lpC Tryz.prog 22 19) (lpK Tryz.prog 22 19) (stV [(0, some (.pointer (some ⟨0, 0, none⟩))), (1, some (.iface 84 (.pointer (some ⟨1, 0, none⟩)))), (132, some (.int .i64 x.nest.spots.length)), (133, some (.int .i64 k))] [(0, some (.cells (eventC x) true)), (1, some (.cells [] false))] 2) (some (C))) (fun C hC _ => ?_) (fun k hk ih C hC hs => ?_)
 ·have := key B (by rw [List.take_zero]; exact (ba_nilr B).symm) (by omega)
  exact this
 ·refine ok_G mkV_ok mixed [(19, [0, 1, 132, 133]), (31, [0, 1, 203, 204]), (55, [0, 1, 330, 331])] (by decide) (l_wr5 x C _ _ _) ?_
  simp only [true_and, and_true]
  refine pIfD (fun hh => absurd hh (by omega)) (fun _ => ?_)
  have e : C = B ++ bEs (vaE x 5) := by rw [hC, ← hlen, List.take_length]
  rw [e]
  exact hP
 ·refine ok_G mkV_ok mixed [(19, [0, 1, 132, 133]), (31, [0, 1, 203, 204]), (55, [0, 1, 330, 331])] (by decide) (l_wr5 x C _ _ _) ?_
  have ek : ((k : Nat) : Int).toNat = k := by omega
  have el : x.nest.spots[k] ∈ x.nest.spots := List.getElem_mem hk
  have hf := hL.2 _ (List.mem_map_of_mem el)
  simp only [vaSpot, fits, fit] at hf
  have := bText_size x.nest.spots[k].part
  have := bInt_size x.nest.spots[k].at_.x
  have := bInt_size x.nest.spots[k].at_.y
  have := bInt_size x.nest.spots[k].turn
  have ht := bEs_take (l := vaE x 5) (k := k) (by omega)
  have hX : ∀ C', C' = C ++ bVs (vaE x 5)[k] → C'.size ≤ 4000000000 + 200 * (k + 1) → OkG Tryz.prog IsW 22 argsW 1 [true, true] Post (lpC Tryz.prog 22 19) (lpK Tryz.prog 22 19) (stV [(0, some (.pointer (some ⟨0, 0, none⟩))), (1, some (.iface 84 (.pointer (some ⟨1, 0, none⟩)))), (132, some (.int .i64 x.nest.spots.length)), (133, some (.int .i64 ((k + 1 : Nat) : Int)))] [(0, some (.cells (eventC x) true)), (1, some (.cells [] false))] 2) (some (C')) := fun C' h1 h2 => ih C' (by rw [h1, hC, ht, ba_assoc]) h2
  clear ih hP hC ht
  have eV : (vaE x 5)[k] = vaSpot x.nest.spots[k] := by simp [vaE]
  rw [eV] at hX
  simp only [true_and, and_true, bT, bF, ek, wrapSucc (show k < 2 ^ 62 by omega), cell_spot hk, spotC, List.getElem?_cons_succ, List.getElem?_cons_zero, Option.getD_some, toI, toS, toB]
  refine pIfD (fun _ => ?_) (fun hh => absurd hh (by omega))
  repeat' (first | exact rfl | refine And.intro ?_ ?_ | trivial | decide | omega | exact .cons ⟨_, rfl⟩ .nil | (simp only [ba_size]; omega) | refine pIf_intro (fun hb => ?_) (fun hb => ?_) | (refine hX _ ?_ ?_ <;> first | (simp [bVs, bVa, ba_assoc, ba_nilr, vaSpot]; done) | (simp only [bVs, bVa, hb, ba_assoc, ba_nilr, vaSpot]; done) | (simp only [ba_size, one_size]; omega)))
theorem wl6 {x : Event} (hL : fitsL x 6) {Post : List Value → Option ByteArray → Prop} (B : ByteArray) (hB : B.size ≤ 4000000000) (hP : Post (eventC x) (some (B ++ bEs (vaE x 6)))) : OkG Tryz.prog IsW 22 argsW 1 [true, true] Post (lpC Tryz.prog 22 31) (lpK Tryz.prog 22 31) (stV [(0, some (.pointer (some ⟨0, 0, none⟩))), (1, some (.iface 84 (.pointer (some ⟨1, 0, none⟩)))), (203, some (.int .i64 x.saw.parts.length)), (204, some (.int .i64 0))] [(0, some (.cells (eventC x) true)), (1, some (.cells [] false))] 2) (some (B)) := by
 simp only [fitsL, shE, fits, fit, vaE, List.length_map] at hL
 have hlen : (vaE x 6).length = x.saw.parts.length := by simp [vaE]
 have key := down (n := x.saw.parts.length) (p := fun k => ∀ C, C = B ++ bEs ((vaE x 6).take k) → C.size ≤ 4000000000 + 200 * k → OkG Tryz.prog IsW 22 argsW 1 [true, true] Post (lpC Tryz.prog 22 31) (lpK Tryz.prog 22 31) (stV [(0, some (.pointer (some ⟨0, 0, none⟩))), (1, some (.iface 84 (.pointer (some ⟨1, 0, none⟩)))), (203, some (.int .i64 x.saw.parts.length)), (204, some (.int .i64 k))] [(0, some (.cells (eventC x) true)), (1, some (.cells [] false))] 2) (some (C))) (fun C hC _ => ?_) (fun k hk ih C hC hs => ?_)
 ·have := key B (by rw [List.take_zero]; exact (ba_nilr B).symm) (by omega)
  exact this
 ·refine ok_G mkV_ok mixed [(19, [0, 1, 132, 133]), (31, [0, 1, 203, 204]), (55, [0, 1, 330, 331])] (by decide) (l_wr6 x C _ _ _) ?_
  simp only [true_and, and_true]
  refine pIfD (fun hh => absurd hh (by omega)) (fun _ => ?_)
  have e : C = B ++ bEs (vaE x 6) := by rw [hC, ← hlen, List.take_length]
  rw [e]
  exact hP
 ·refine ok_G mkV_ok mixed [(19, [0, 1, 132, 133]), (31, [0, 1, 203, 204]), (55, [0, 1, 330, 331])] (by decide) (l_wr6 x C _ _ _) ?_
  have ek : ((k : Nat) : Int).toNat = k := by omega
  have el : x.saw.parts[k] ∈ x.saw.parts := List.getElem_mem hk
  have hf := hL.2 _ (List.mem_map_of_mem el)
  simp only [fits, fit] at hf
  have := bText_size x.saw.parts[k]
  have ht := bEs_take (l := vaE x 6) (k := k) (by omega)
  have hX : ∀ C', C' = C ++ bVs (vaE x 6)[k] → C'.size ≤ 4000000000 + 200 * (k + 1) → OkG Tryz.prog IsW 22 argsW 1 [true, true] Post (lpC Tryz.prog 22 31) (lpK Tryz.prog 22 31) (stV [(0, some (.pointer (some ⟨0, 0, none⟩))), (1, some (.iface 84 (.pointer (some ⟨1, 0, none⟩)))), (203, some (.int .i64 x.saw.parts.length)), (204, some (.int .i64 ((k + 1 : Nat) : Int)))] [(0, some (.cells (eventC x) true)), (1, some (.cells [] false))] 2) (some (C')) := fun C' h1 h2 => ih C' (by rw [h1, hC, ht, ba_assoc]) h2
  clear ih hP hC ht
  have eV : (vaE x 6)[k] = [.s x.saw.parts[k]] := by simp [vaE]
  rw [eV] at hX
  simp only [true_and, and_true, bT, bF, ek, wrapSucc (show k < 2 ^ 62 by omega), cell_name hk, List.getElem?_cons_succ, List.getElem?_cons_zero, Option.getD_some, toI, toS, toB]
  refine pIfD (fun _ => ?_) (fun hh => absurd hh (by omega))
  repeat' (first | exact rfl | refine And.intro ?_ ?_ | trivial | decide | omega | exact .cons ⟨_, rfl⟩ .nil | (simp only [ba_size]; omega) | refine pIf_intro (fun hb => ?_) (fun hb => ?_) | (refine hX _ ?_ ?_ <;> first | (simp [bVs, bVa, ba_assoc, ba_nilr]; done) | (simp only [bVs, bVa, hb, ba_assoc, ba_nilr]; done) | (simp only [ba_size, one_size]; omega)))
theorem wl14 {x : Event} (hL : fitsL x 14) {Post : List Value → Option ByteArray → Prop} (B : ByteArray) (hB : B.size ≤ 4000000000) (hP : Post (eventC x) (some (B ++ bEs (vaE x 14)))) : OkG Tryz.prog IsW 22 argsW 1 [true, true] Post (lpC Tryz.prog 22 55) (lpK Tryz.prog 22 55) (stV [(0, some (.pointer (some ⟨0, 0, none⟩))), (1, some (.iface 84 (.pointer (some ⟨1, 0, none⟩)))), (330, some (.int .i64 x.lift.hooks.length)), (331, some (.int .i64 0))] [(0, some (.cells (eventC x) true)), (1, some (.cells [] false))] 2) (some (B)) := by
 simp only [fitsL, shE, fits, fit, vaE, List.length_map] at hL
 have hlen : (vaE x 14).length = x.lift.hooks.length := by simp [vaE]
 have key := down (n := x.lift.hooks.length) (p := fun k => ∀ C, C = B ++ bEs ((vaE x 14).take k) → C.size ≤ 4000000000 + 200 * k → OkG Tryz.prog IsW 22 argsW 1 [true, true] Post (lpC Tryz.prog 22 55) (lpK Tryz.prog 22 55) (stV [(0, some (.pointer (some ⟨0, 0, none⟩))), (1, some (.iface 84 (.pointer (some ⟨1, 0, none⟩)))), (330, some (.int .i64 x.lift.hooks.length)), (331, some (.int .i64 k))] [(0, some (.cells (eventC x) true)), (1, some (.cells [] false))] 2) (some (C))) (fun C hC _ => ?_) (fun k hk ih C hC hs => ?_)
 ·have := key B (by rw [List.take_zero]; exact (ba_nilr B).symm) (by omega)
  exact this
 ·refine ok_G mkV_ok mixed [(19, [0, 1, 132, 133]), (31, [0, 1, 203, 204]), (55, [0, 1, 330, 331])] (by decide) (l_wr14 x C _ _ _) ?_
  simp only [true_and, and_true]
  refine pIfD (fun hh => absurd hh (by omega)) (fun _ => ?_)
  have e : C = B ++ bEs (vaE x 14) := by rw [hC, ← hlen, List.take_length]
  rw [e]
  exact hP
 ·refine ok_G mkV_ok mixed [(19, [0, 1, 132, 133]), (31, [0, 1, 203, 204]), (55, [0, 1, 330, 331])] (by decide) (l_wr14 x C _ _ _) ?_
  have ek : ((k : Nat) : Int).toNat = k := by omega
  have el : x.lift.hooks[k] ∈ x.lift.hooks := List.getElem_mem hk
  have hf := hL.2 _ (List.mem_map_of_mem el)
  simp only [vaHook, fits, fit] at hf
  have := bText_size x.lift.hooks[k].crane
  have := bInt_size x.lift.hooks[k].at_.x
  have := bInt_size x.lift.hooks[k].at_.y
  have := bInt_size x.lift.hooks[k].radius
  have ht := bEs_take (l := vaE x 14) (k := k) (by omega)
  have hX : ∀ C', C' = C ++ bVs (vaE x 14)[k] → C'.size ≤ 4000000000 + 200 * (k + 1) → OkG Tryz.prog IsW 22 argsW 1 [true, true] Post (lpC Tryz.prog 22 55) (lpK Tryz.prog 22 55) (stV [(0, some (.pointer (some ⟨0, 0, none⟩))), (1, some (.iface 84 (.pointer (some ⟨1, 0, none⟩)))), (330, some (.int .i64 x.lift.hooks.length)), (331, some (.int .i64 ((k + 1 : Nat) : Int)))] [(0, some (.cells (eventC x) true)), (1, some (.cells [] false))] 2) (some (C')) := fun C' h1 h2 => ih C' (by rw [h1, hC, ht, ba_assoc]) h2
  clear ih hP hC ht
  have eV : (vaE x 14)[k] = vaHook x.lift.hooks[k] := by simp [vaE]
  rw [eV] at hX
  simp only [true_and, and_true, bT, bF, ek, wrapSucc (show k < 2 ^ 62 by omega), cell_hook hk, hook4C, List.getElem?_cons_succ, List.getElem?_cons_zero, Option.getD_some, toI, toS, toB]
  refine pIfD (fun _ => ?_) (fun hh => absurd hh (by omega))
  repeat' (first | exact rfl | refine And.intro ?_ ?_ | trivial | decide | omega | exact .cons ⟨_, rfl⟩ .nil | (simp only [ba_size]; omega) | refine pIf_intro (fun hb => ?_) (fun hb => ?_) | (refine hX _ ?_ ?_ <;> first | (simp [bVs, bVa, ba_assoc, ba_nilr, vaHook]; done) | (simp only [bVs, bVa, hb, ba_assoc, ba_nilr, vaHook]; done) | (simp only [ba_size, one_size]; omega)))
theorem wr_G {x : Event} (h : WrOk x) (S : ByteArray) (hS : S.size ≤ 1000000000) {Post : List Value → Option ByteArray → Prop} (hX : ∀ C, C = bBody x x.kind.toNat → Post (eventC x) (some (S ++ C))) : SpecG Tryz.prog IsW 22 1 2 (hpW (eventC x)) argsW (some S) fun v hp' g' => v = .tuple #[] ∧ ∃ l, hp'.get 0 = some (.cells l true) ∧ Post l g' := by
 refine spec_G (base := [true, true]) mkV_ok isW_ds mixed (by kernel_rfl) [(19, [0, 1, 132, 133]), (31, [0, 1, 203, 204]), (55, [0, 1, 330, 331])] (by decide) (e_wr x S _ _) ?_
 have hkind := kinds h.k1 h.k2
 simp only [true_and, and_true, ba_assoc, bT, bF, Int.toNat_natCast]
 refine pIfD (fun hk => ?_) (fun n1 => ?_)
 ·clear hkind
  rw [hk] at hX
  have h3 := h.ord
  have := bText_size (bOrder x.order)
  exact ⟨x.order, rfl, h.inO, h.few, h3, by omega, hX _ rfl⟩
 refine pIfD (fun hk => ?_) (fun n2 => ?_)
 ·clear hkind
  rw [hk] at hX
  have hf := h.fitK (k := 2) hk
  simp only [shN, vaN, fits, fit] at hf
  have := bText_size x.sheet.id
  have := bText_size x.sheet.grade
  have := bInt_size x.sheet.thick
  have := bInt_size x.sheet.long
  have := bInt_size x.sheet.width
  have := bText_size x.sheet.heat
  and_intros <;> try first | omega | decide | (simp only [ba_size]; omega) | exact (hX _ (by show _ = bVs (vaN x 2) ++ bLs x 2; simp only [vaN, bVs, bVa, bLs, shE, ba_assoc, ba_nilr]))
 refine pIfD (fun hk => ?_) (fun n3 => ?_)
 ·clear hkind
  rw [hk] at hX
  have hf := h.fitK (k := 3) hk
  simp only [shN, vaN, fits, fit] at hf
  have := bText_size x.bar.id
  have := bText_size x.bar.sect
  have := bText_size x.bar.grade
  have := bInt_size x.bar.long
  have := bText_size x.bar.heat
  and_intros <;> try first | omega | decide | (simp only [ba_size]; omega) | exact (hX _ (by show _ = bVs (vaN x 3) ++ bLs x 3; simp only [vaN, bVs, bVa, bLs, shE, ba_assoc, ba_nilr]))
 refine pIfD (fun hk => ?_) (fun n4 => ?_)
 ·clear hkind
  rw [hk] at hX
  have hf := h.fitK (k := 4) hk
  simp only [shN, vaN, fits, fit] at hf
  have := bText_size x.item
  have := bText_size x.by_
  and_intros <;> try first | omega | decide | (simp only [ba_size]; omega) | exact (hX _ (by show _ = bVs (vaN x 4) ++ bLs x 4; simp only [vaN, bVs, bVa, bLs, shE, ba_assoc, ba_nilr]))
 refine pIfD (fun hk => ?_) (fun n5 => ?_)
 ·clear hkind
  rw [hk] at hX
  have hf := h.fitK (k := 5) hk
  simp only [shN, vaN, fits, fit] at hf
  have := bText_size x.nest.sheet
  have := bInt_size x.nest.gap
  have hL := h.fitLK (k := 5) hk
  have hL2 := hL
  simp only [fitsL, shE, vaE, List.length_map] at hL2
  have := bList_size x.nest.spots.length
  have hY : ∀ C, C = bVs (vaN x 5) ++ bList x.nest.spots.length → OkG Tryz.prog IsW 22 argsW 1 [true, true] Post (lpC Tryz.prog 22 19) (lpK Tryz.prog 22 19) (stV [(0, some (.pointer (some ⟨0, 0, none⟩))), (1, some (.iface 84 (.pointer (some ⟨1, 0, none⟩)))), (132, some (.int .i64 x.nest.spots.length)), (133, some (.int .i64 0))] [(0, some (.cells (eventC x) true)), (1, some (.cells [] false))] 2) (some (S ++ C)) := fun C hC => wl5 hL (S ++ C) (by rw [hC]; simp only [vaN, bVs, bVa, ba_size, ba_nilr]; omega) (by rw [ba_assoc]; exact hX _ (by rw [hC]; show _ = bVs (vaN x 5) ++ bLs x 5; simp only [bLs, shE, vaE, List.length_map, ba_assoc]))
  and_intros <;> try first | omega | decide | (simp only [ba_size]; omega)
  exact pIfN (fun hh => absurd trivial hh) (fun _ => (hY _ (by simp only [vaN, bVs, bVa, ba_assoc, ba_nilr, Int.toNat_natCast])))
 refine pIfD (fun hk => ?_) (fun n6 => ?_)
 ·clear hkind
  rw [hk] at hX
  have hf := h.fitK (k := 6) hk
  simp only [shN, vaN, fits, fit] at hf
  have := bText_size x.saw.bar
  have := bInt_size x.saw.kerf
  have hL := h.fitLK (k := 6) hk
  have hL2 := hL
  simp only [fitsL, shE, vaE, List.length_map] at hL2
  have := bList_size x.saw.parts.length
  have hY : ∀ C, C = bVs (vaN x 6) ++ bList x.saw.parts.length → OkG Tryz.prog IsW 22 argsW 1 [true, true] Post (lpC Tryz.prog 22 31) (lpK Tryz.prog 22 31) (stV [(0, some (.pointer (some ⟨0, 0, none⟩))), (1, some (.iface 84 (.pointer (some ⟨1, 0, none⟩)))), (203, some (.int .i64 x.saw.parts.length)), (204, some (.int .i64 0))] [(0, some (.cells (eventC x) true)), (1, some (.cells [] false))] 2) (some (S ++ C)) := fun C hC => wl6 hL (S ++ C) (by rw [hC]; simp only [vaN, bVs, bVa, ba_size, ba_nilr]; omega) (by rw [ba_assoc]; exact hX _ (by rw [hC]; show _ = bVs (vaN x 6) ++ bLs x 6; simp only [bLs, shE, vaE, List.length_map, ba_assoc]))
  and_intros <;> try first | omega | decide | (simp only [ba_size]; omega)
  exact pIfN (fun hh => absurd trivial hh) (fun _ => (hY _ (by simp only [vaN, bVs, bVa, ba_assoc, ba_nilr, Int.toNat_natCast])))
 refine pIfD (fun hk => ?_) (fun n7 => ?_)
 ·clear hkind
  rw [hk] at hX
  have hf := h.fitK (k := 7) hk
  simp only [shN, vaN, fits, fit] at hf
  have := bText_size x.item
  and_intros <;> try first | omega | decide | (simp only [ba_size]; omega) | exact (hX _ (by show _ = bVs (vaN x 7) ++ bLs x 7; simp only [vaN, bVs, bVa, bLs, shE, ba_assoc, ba_nilr]))
 refine pIfD (fun hk => ?_) (fun n8 => ?_)
 ·clear hkind
  rw [hk] at hX
  have hf := h.fitK (k := 8) hk
  simp only [shN, vaN, fits, fit] at hf
  have := bText_size x.item
  and_intros <;> try first | omega | decide | (simp only [ba_size]; omega) | exact (hX _ (by show _ = bVs (vaN x 8) ++ bLs x 8; simp only [vaN, bVs, bVa, bLs, shE, ba_assoc, ba_nilr]))
 refine pIfD (fun hk => ?_) (fun n12 => ?_)
 ·clear hkind
  rw [hk] at hX
  have hf := h.fitK (k := 12) hk
  simp only [shN, vaN, fits, fit] at hf
  have := bText_size x.item
  and_intros <;> try first | omega | decide | (simp only [ba_size]; omega) | exact (hX _ (by show _ = bVs (vaN x 12) ++ bLs x 12; simp only [vaN, bVs, bVa, bLs, shE, ba_assoc, ba_nilr]))
 refine pIfD (fun hk => ?_) (fun n16 => ?_)
 ·clear hkind
  rw [hk] at hX
  have hf := h.fitK (k := 16) hk
  simp only [shN, vaN, fits, fit] at hf
  have := bText_size x.item
  and_intros <;> try first | omega | decide | (simp only [ba_size]; omega) | exact (hX _ (by show _ = bVs (vaN x 16) ++ bLs x 16; simp only [vaN, bVs, bVa, bLs, shE, ba_assoc, ba_nilr]))
 refine pIfD (fun hk => ?_) (fun n9 => ?_)
 ·clear hkind
  rw [hk] at hX
  have hf := h.fitK (k := 9) hk
  simp only [shN, vaN, fits, fit] at hf
  have := bText_size x.item
  have := bText_size x.of_
  have := bText_size x.by_
  and_intros <;> try first | omega | decide | (simp only [ba_size]; omega) | exact (hX _ (by show _ = bVs (vaN x 9) ++ bLs x 9; simp only [vaN, bVs, bVa, bLs, shE, ba_assoc, ba_nilr]))
 refine pIfD (fun hk => ?_) (fun n11 => ?_)
 ·clear hkind
  rw [hk] at hX
  have hf := h.fitK (k := 11) hk
  simp only [shN, vaN, fits, fit] at hf
  have := bText_size x.item
  have := bText_size x.of_
  have := bText_size x.by_
  and_intros <;> try first | omega | decide | (simp only [ba_size]; omega) | exact (hX _ (by show _ = bVs (vaN x 11) ++ bLs x 11; simp only [vaN, bVs, bVa, bLs, shE, ba_assoc, ba_nilr]))
 refine pIfD (fun hk => ?_) (fun n10 => ?_)
 ·clear hkind
  rw [hk] at hX
  have hf := h.fitK (k := 10) hk
  simp only [shN, vaN, fits, fit] at hf
  have := bText_size x.item
  have := bInt_size x.n
  repeat' (first | exact rfl | refine And.intro ?_ ?_ | trivial | decide | omega | exact .cons ⟨_, rfl⟩ .nil | (simp only [ba_size]; omega) | exact pIfN (fun hh => absurd rfl hh) (fun _ => ⟨trivial, (hX _ (by show _ = bVs (vaN x 10) ++ bLs x 10; simp only [vaN, bVs, bVa, bLs, shE, ba_assoc, ba_nilr, hb]))⟩) | exact pIfN (fun hh => absurd rfl hh) (fun _ => (hX _ (by show _ = bVs (vaN x 10) ++ bLs x 10; simp only [vaN, bVs, bVa, bLs, shE, ba_assoc, ba_nilr, hb]))) | refine pIf_intro (fun hb => ?_) (fun hb => ?_) | exact (hX _ (by show _ = bVs (vaN x 10) ++ bLs x 10; simp only [vaN, bVs, bVa, bLs, shE, ba_assoc, ba_nilr, hb])))
 refine pIfD (fun hk => ?_) (fun n13 => ?_)
 ·clear hkind
  rw [hk] at hX
  have hf := h.fitK (k := 13) hk
  simp only [shN, vaN, fits, fit] at hf
  have := bText_size x.weig.block
  have := bInt_size x.weig.mass
  have := bInt_size x.weig.centre.x
  have := bInt_size x.weig.centre.y
  have := bInt_size x.weig.centre.z
  have := bInt_size x.weig.sigma
  and_intros <;> try first | omega | decide | (simp only [ba_size]; omega) | exact (hX _ (by show _ = bVs (vaN x 13) ++ bLs x 13; simp only [vaN, bVs, bVa, bLs, shE, ba_assoc, ba_nilr]))
 refine pIfD (fun hk => ?_) (fun n14 => ?_)
 ·clear hkind
  rw [hk] at hX
  have hf := h.fitK (k := 14) hk
  simp only [shN, vaN, fits, fit] at hf
  have := bText_size x.lift.block
  have hL := h.fitLK (k := 14) hk
  have hL2 := hL
  simp only [fitsL, shE, vaE, List.length_map] at hL2
  have := bList_size x.lift.hooks.length
  have hY : ∀ C, C = bVs (vaN x 14) ++ bList x.lift.hooks.length → OkG Tryz.prog IsW 22 argsW 1 [true, true] Post (lpC Tryz.prog 22 55) (lpK Tryz.prog 22 55) (stV [(0, some (.pointer (some ⟨0, 0, none⟩))), (1, some (.iface 84 (.pointer (some ⟨1, 0, none⟩)))), (330, some (.int .i64 x.lift.hooks.length)), (331, some (.int .i64 0))] [(0, some (.cells (eventC x) true)), (1, some (.cells [] false))] 2) (some (S ++ C)) := fun C hC => wl14 hL (S ++ C) (by rw [hC]; simp only [vaN, bVs, bVa, ba_size, ba_nilr]; omega) (by rw [ba_assoc]; exact hX _ (by rw [hC]; show _ = bVs (vaN x 14) ++ bLs x 14; simp only [bLs, shE, vaE, List.length_map, ba_assoc]))
  and_intros <;> try first | omega | decide | (simp only [ba_size]; omega)
  exact pIfN (fun hh => absurd trivial hh) (fun _ => (hY _ (by simp only [vaN, bVs, bVa, ba_assoc, ba_nilr, Int.toNat_natCast])))
 refine pIfD (fun hk => ?_) (fun n15 => ?_)
 ·clear hkind
  rw [hk] at hX
  have hf := h.fitK (k := 15) hk
  simp only [shN, vaN, fits, fit] at hf
  have := bText_size x.permit.id
  have := bInt_size x.permit.kind
  have := bInt_size x.permit.time.a
  have := bInt_size x.permit.time.b
  and_intros <;> try first | omega | decide | (simp only [ba_size]; omega) | exact (hX _ (by show _ = bVs (vaN x 15) ++ bLs x 15; simp only [vaN, bVs, bVa, bLs, shE, ba_assoc, ba_nilr]))
 have hz := hX ⟨#[]⟩ (by
  have : x.kind = 17 ∨ x.kind = 18 := by omega
  rcases this with hk | hk <;> rw [hk] <;> exact (ba_nil _).symm)
 rw [ba_nilr] at hz
 exact hz
theorem ok_wr {x : Event} (h : WrOk x) (S : ByteArray) (hS : S.size ≤ 1000000000) : SpecG Tryz.prog IsW 22 1 2 (hpW (eventC x)) argsW (some S) fun v hp' g1 => v = .tuple #[] ∧ hp'.get 0 = some (.cells (eventC x) true) ∧ g1 = some (S ++ bBody x x.kind.toNat) :=
 specG_mono (wr_G (Post := fun l g => l = eventC x ∧ g = some (S ++ bBody x x.kind.toNat)) h S hS fun C hC => ⟨rfl, by rw [hC]⟩) (fun v hp g ⟨q1, l, q2, q3, q4⟩ => ⟨q1, by rw [q2, q3], q4⟩)
def V_wr : VisC := fun E t g g' => t = 84 ∧ ∃ x : Event, E = eventC x ∧ WrOk x ∧ g.size ≤ 1000000000 ∧ g' = g ++ bBody x x.kind.toNat
theorem vis_wr : VisOk 22 V_wr := by
 rintro E t g g' ⟨rfl, x, rfl, h, hs, rfl⟩
 exact ok_wr h g hs
def callEn : PCall := tabFr Tryz.prog [⟨10, c_check⟩] noP
def mkEn (kb : Nat) : GCall (Option ByteArray) := visCall 22 V_wr kb (mkW [] callW kb)
theorem e_enc (x : Event) (H : HT) (Post : PX) : (fun _ => vcW callEn mkEn 14 [eventV x]) H Post = (T4 (((T32 (T8 (True))) ∧ True) ∧ ∃ (x_1 : Event), eqL [Value.agg (evK x.kind x).toArray] [eventV x_1] ∧ ShortEv x_1 ∧ InOrder x_1.order ∧ FewO x_1.order ∧ x_1.item.size < 16777000 ∧ T2 (True ∧ pIf (!decide (checkE x_1 = 0)) (T2 (True ∧ (T2 (True ∧ True)) ∧ true = true ∧ Post (Out.ret (Value.tuple #[vz, vi (checkE x_1)])) [])) (T4 (True ∧ (-9223372036854775808 ≤ x.kind ∧ x.kind < 9223372036854775808) ∧ ((vi x.at_ = vi x.at_ ∧ True) ∧ True) ∧ (-9223372036854775808 ≤ x.at_ ∧ x.at_ < 9223372036854775808) ∧ True ∧ ByteArray.size (bInt x.kind) + ByteArray.size (bInt x.at_) ≤ 9223372036854775807 ∧ 0 + ByteArray.size (bInt x.kind ++ bInt x.at_) ≤ 140737488355328 ∧ T2 (∃ (g' : ByteArray), (84 = 84 ∧ ∃ (x_2 : Event), eqL (evK x.kind x) (evK x_2.kind x_2) ∧ WrOk x_2 ∧ ByteArray.size (ByteArray.empty ++ (bInt x.kind ++ bInt x.at_)) ≤ 1000000000 ∧ g' = ByteArray.empty ++ (bInt x.kind ++ bInt x.at_) ++ bBody x_2 (Int.toNat x_2.kind)) ∧ True ∧ 0 < g'.size ∧ T2 ((T2 (True ∧ True)) ∧ true = true ∧ Post (Out.ret (Value.tuple #[vs g', vi 0])) []))))))) := by kernel_rfl
theorem check0 {x : Event} (h : checkE x = 0) : 1 ≤ x.kind ∧ x.kind ≤ 18 ∧ 0 ≤ x.at_ ∧ x.at_ ≤ 1048576 ∧ x = plainK x.kind x ∧ longK x.kind x = false ∧ farK x.kind x = false := by
 unfold checkE at h
 split at h
 ·cases h
 rename_i hk
 split at h
 ·cases h
 rename_i ha
 split at h
 ·cases h
 rename_i hp
 split at h
 ·cases h
 split at h
 ·cases h
 rename_i hl
 split at h
 ·cases h
 rename_i hf
 have hk := Classical.not_not.1 hk
 exact ⟨hk.1, hk.2, by omega, by omega, Classical.not_not.1 hp, by simpa using hl, by simpa using hf⟩
def encR (x : Event) : ByteArray × Int := if checkE x = 0 then (bEv x, 0) else (⟨#[]⟩, checkE x)
def c_enc (args : List Value) (Post : Value → Prop) : Prop := ∃ x : Event, args = [eventV x] ∧ ShortEv x ∧ InOrder x.order ∧ FewO x.order ∧ x.item.size < 16777000 ∧ (bOrder x.order).size ≤ 16000000 ∧ Post (.tuple #[.string (encR x).1, .int .i64 (encR x).2])
theorem callEn_ok : PCallOk Tryz.prog callEn := tabFr_ok (by
 intro e he
 simp only [List.mem_cons, List.not_mem_nil, or_false] at he
 subst he
 exact ok_check) noP_ok
theorem mkEn_ok (W0 : Base) (c kb : Nat) : GCallOk Tryz.prog (HidO W0 c) kb (c, 0, 2) (mkEn kb) := visCall_ok vis_wr (mkW_ok mixed callW_ok W0 c kb)
theorem bInt_pos (n : Int) : 0 < (bInt n).size := by
 unfold bInt
 have : ∀ k v, 0 < (hd k v).length := fun k v => by
  unfold hd
  split
  ·simp
  split
  ·simp
  split
  ·simp
  split <;> simp
 split <;> (rw [str_size]; exact this _ _)
theorem ok_enc : EntOk Tryz.prog ⟨14, c_enc⟩ := by
 rintro args Post ⟨x, rfl, hs, hi, hf, hz, hb, h⟩
 refine B.pure_of_X (spec_W callEn_ok mkEn_ok mixed (by kernel_rfl) (Eq.mpr (e_enc x (fun _ _ _ => True) _) ?_))
 have hC : ¬ checkE x = 0 → B.retV Post (.ret (.tuple #[.string ⟨#[]⟩, .int .i64 (checkE x)])) [] := fun c => by
  unfold encR at h
  rw [if_neg c] at h
  exact h
 have hO : checkE x = 0 → B.retV Post (.ret (.tuple #[.string (bEv x), .int .i64 0])) [] := fun c => by
  unfold encR at h
  rw [if_pos c] at h
  exact h
 clear h
 simp only [true_and, and_true]
 refine ⟨x, rfl, hs, hi, hf, hz, pIfN (fun c => ?_) (fun c => ?_)⟩
 ·repeat' (first | exact rfl | refine And.intro ?_ ?_ | trivial | exact hC c)
 obtain ⟨k1, k2, a1, a2, hp, hl, hfr⟩ := check0 c
 have i1 := bInt_size x.kind
 have i2 := bInt_size x.at_
 have i3 := bInt_pos x.kind
 have e0 : ByteArray.empty ++ (bInt x.kind ++ bInt x.at_) = bInt x.kind ++ bInt x.at_ := ba_nil _
 have hw : WrOk x := ⟨k1, k2, fits_all k1 k2 hl hfr, hi, hf, hb⟩
 have hO := hO c
 repeat' (first | exact rfl | refine And.intro ?_ ?_ | trivial | omega | (simp only [ba_size]; omega) | refine ⟨bEv x, ⟨x, rfl, hw, ?_, ?_⟩, ?_⟩ | (rw [e0]; rfl) | (rw [e0]; simp only [ba_size]; omega) | (unfold bEv; simp only [ba_size]; omega) | exact hO)
def callRPl : VCall := inlCall Tryz.prog [24, 26, 28] noCall 2
theorem callRPl_ok : VCallOk Tryz.prog callRPl := inlCall_ok mixed noCall_ok 2
theorem e_rplain1 (x : Event) (H : HT) (Post : PV) : vcP Tryz.prog callRPl 23 [] [.agg (.int .i64 1 :: (eventC x).tail).toArray] H Post = (T8 (40 ≤ 40 ∧ T32 (T16 (T8 (True ∧ 9 ≤ 40 ∧ True ∧ 40 ≤ 40 ∧ (T32 (T8 (True))) ∧ Post (Value.agg #[vi 1, vi x.at_, vz, vz, vz, vi 0, vb false, vs x.order.id, tree 38 x.order.edits.length (encL x.order.edits), vz, vz, vi 0, vi 0, vi 0, vz, vz, vz, vz, vi 0, vz, vz, vi 0, tree 5 0 #[], vz, vi 0, tree 1 0 #[], vz, vi 0, vi 0, vi 0, vi 0, vi 0, vi 0, tree 1 0 #[], vz, tree 4 0 #[], vz, vi 0, vi 0, vi 0])))))) := by kernel_rfl
theorem e_rplain2 (x : Event) (H : HT) (Post : PV) : vcP Tryz.prog callRPl 23 [] [.agg (.int .i64 2 :: (eventC x).tail).toArray] H Post = (T8 (40 ≤ 40 ∧ T32 (T16 (T8 (T2 (True ∧ 15 ≤ 40 ∧ True ∧ 40 ≤ 40 ∧ (T32 (T8 (True))) ∧ Post (Value.agg #[vi 2, vi x.at_, vz, vz, vz, vi 0, vb false, vz, tree 38 0 #[], vs x.sheet.id, vs x.sheet.grade, vi x.sheet.thick, vi x.sheet.long, vi x.sheet.width, vs x.sheet.heat, vz, vz, vz, vi 0, vz, vz, vi 0, tree 5 0 #[], vz, vi 0, tree 1 0 #[], vz, vi 0, vi 0, vi 0, vi 0, vi 0, vi 0, tree 1 0 #[], vz, tree 4 0 #[], vz, vi 0, vi 0, vi 0]))))))) := by kernel_rfl
theorem e_rplain3 (x : Event) (H : HT) (Post : PV) : vcP Tryz.prog callRPl 23 [] [.agg (.int .i64 3 :: (eventC x).tail).toArray] H Post = (T8 (40 ≤ 40 ∧ T32 (T16 (T8 (T4 (True ∧ 20 ≤ 40 ∧ True ∧ 40 ≤ 40 ∧ (T32 (T8 (True))) ∧ Post (Value.agg #[vi 3, vi x.at_, vz, vz, vz, vi 0, vb false, vz, tree 38 0 #[], vz, vz, vi 0, vi 0, vi 0, vz, vs x.bar.id, vs x.bar.sect, vs x.bar.grade, vi x.bar.long, vs x.bar.heat, vz, vi 0, tree 5 0 #[], vz, vi 0, tree 1 0 #[], vz, vi 0, vi 0, vi 0, vi 0, vi 0, vi 0, tree 1 0 #[], vz, tree 4 0 #[], vz, vi 0, vi 0, vi 0]))))))) := by kernel_rfl
theorem e_rplain4 (x : Event) (H : HT) (Post : PV) : vcP Tryz.prog callRPl 23 [] [.agg (.int .i64 4 :: (eventC x).tail).toArray] H Post = (T8 (40 ≤ 40 ∧ T8 (T2 (3 ≤ 40 ∧ T16 (T8 (T4 (T2 (5 ≤ 40 ∧ T16 (T4 (True ∧ 40 ≤ 40 ∧ (T32 (T8 (True))) ∧ Post (Value.agg #[vi 4, vi x.at_, vs x.item, vz, vs x.by_, vi 0, vb false, vz, tree 38 0 #[], vz, vz, vi 0, vi 0, vi 0, vz, vz, vz, vz, vi 0, vz, vz, vi 0, tree 5 0 #[], vz, vi 0, tree 1 0 #[], vz, vi 0, vi 0, vi 0, vi 0, vi 0, vi 0, tree 1 0 #[], vz, tree 4 0 #[], vz, vi 0, vi 0, vi 0]))))))))))) := by kernel_rfl
theorem e_rplain5 (x : Event) (H : HT) (Post : PV) : vcP Tryz.prog callRPl 23 [] [.agg (.int .i64 5 :: (eventC x).tail).toArray] H Post = (T8 (40 ≤ 40 ∧ T32 (T16 (T8 (T4 (T2 (True ∧ 23 ≤ 40 ∧ True ∧ 40 ≤ 40 ∧ (T32 (T8 (True))) ∧ Post (Value.agg #[vi 5, vi x.at_, vz, vz, vz, vi 0, vb false, vz, tree 38 0 #[], vz, vz, vi 0, vi 0, vi 0, vz, vz, vz, vz, vi 0, vz, vs x.nest.sheet, vi x.nest.gap, tree 5 x.nest.spots.length (encL x.nest.spots), vz, vi 0, tree 1 0 #[], vz, vi 0, vi 0, vi 0, vi 0, vi 0, vi 0, tree 1 0 #[], vz, tree 4 0 #[], vz, vi 0, vi 0, vi 0])))))))) := by kernel_rfl
theorem e_rplain6 (x : Event) (H : HT) (Post : PV) : vcP Tryz.prog callRPl 23 [] [.agg (.int .i64 6 :: (eventC x).tail).toArray] H Post = (T8 (40 ≤ 40 ∧ T32 (T32 (True ∧ 26 ≤ 40 ∧ True ∧ 40 ≤ 40 ∧ (T32 (T8 (True))) ∧ Post (Value.agg #[vi 6, vi x.at_, vz, vz, vz, vi 0, vb false, vz, tree 38 0 #[], vz, vz, vi 0, vi 0, vi 0, vz, vz, vz, vz, vi 0, vz, vz, vi 0, tree 5 0 #[], vs x.saw.bar, vi x.saw.kerf, tree 1 x.saw.parts.length (encL x.saw.parts), vz, vi 0, vi 0, vi 0, vi 0, vi 0, vi 0, tree 1 0 #[], vz, tree 4 0 #[], vz, vi 0, vi 0, vi 0]))))) := by kernel_rfl
theorem e_rplain7 (x : Event) (H : HT) (Post : PV) : vcP Tryz.prog callRPl 23 [] [.agg (.int .i64 7 :: (eventC x).tail).toArray] H Post = (T8 (40 ≤ 40 ∧ T8 (T4 (3 ≤ 40 ∧ T32 (T16 (40 ≤ 40 ∧ (T32 (T8 (True))) ∧ Post (Value.agg #[vi 7, vi x.at_, vs x.item, vz, vz, vi 0, vb false, vz, tree 38 0 #[], vz, vz, vi 0, vi 0, vi 0, vz, vz, vz, vz, vi 0, vz, vz, vi 0, tree 5 0 #[], vz, vi 0, tree 1 0 #[], vz, vi 0, vi 0, vi 0, vi 0, vi 0, vi 0, tree 1 0 #[], vz, tree 4 0 #[], vz, vi 0, vi 0, vi 0]))))))) := by kernel_rfl
theorem e_rplain8 (x : Event) (H : HT) (Post : PV) : vcP Tryz.prog callRPl 23 [] [.agg (.int .i64 8 :: (eventC x).tail).toArray] H Post = (T8 (40 ≤ 40 ∧ T8 (T4 (T2 (3 ≤ 40 ∧ T32 (T16 (40 ≤ 40 ∧ (T32 (T8 (True))) ∧ Post (Value.agg #[vi 8, vi x.at_, vs x.item, vz, vz, vi 0, vb false, vz, tree 38 0 #[], vz, vz, vi 0, vi 0, vi 0, vz, vz, vz, vz, vi 0, vz, vz, vi 0, tree 5 0 #[], vz, vi 0, tree 1 0 #[], vz, vi 0, vi 0, vi 0, vi 0, vi 0, vi 0, tree 1 0 #[], vz, tree 4 0 #[], vz, vi 0, vi 0, vi 0])))))))) := by kernel_rfl
theorem e_rplain9 (x : Event) (H : HT) (Post : PV) : vcP Tryz.prog callRPl 23 [] [.agg (.int .i64 9 :: (eventC x).tail).toArray] H Post = (T8 (40 ≤ 40 ∧ T16 (T4 (3 ≤ 40 ∧ T8 (T2 (True ∧ 4 ≤ 40 ∧ T16 (5 ≤ 40 ∧ T16 (T4 (True ∧ 40 ≤ 40 ∧ (T32 (T8 (True))) ∧ Post (Value.agg #[vi 9, vi x.at_, vs x.item, vs x.of_, vs x.by_, vi 0, vb false, vz, tree 38 0 #[], vz, vz, vi 0, vi 0, vi 0, vz, vz, vz, vz, vi 0, vz, vz, vi 0, tree 5 0 #[], vz, vi 0, tree 1 0 #[], vz, vi 0, vi 0, vi 0, vi 0, vi 0, vi 0, tree 1 0 #[], vz, tree 4 0 #[], vz, vi 0, vi 0, vi 0])))))))))) := by kernel_rfl
theorem e_rplain10 (x : Event) (H : HT) (Post : PV) : vcP Tryz.prog callRPl 23 [] [.agg (.int .i64 10 :: (eventC x).tail).toArray] H Post = (T8 (40 ≤ 40 ∧ T16 (T8 (3 ≤ 40 ∧ T32 (T2 (True ∧ pIf x.pass (True ∧ 6 ≤ 40 ∧ ((vb x.pass = vb true ∧ True) ∧ True) ∧ True ∧ 7 ≤ 40 ∧ T2 (40 ≤ 40 ∧ (T32 (T8 (True))) ∧ Post (Value.agg #[vi 10, vi x.at_, vs x.item, vz, vz, vi x.n, vb true, vz, tree 38 0 #[], vz, vz, vi 0, vi 0, vi 0, vz, vz, vz, vz, vi 0, vz, vz, vi 0, tree 5 0 #[], vz, vi 0, tree 1 0 #[], vz, vi 0, vi 0, vi 0, vi 0, vi 0, vi 0, tree 1 0 #[], vz, tree 4 0 #[], vz, vi 0, vi 0, vi 0]))) (True ∧ 6 ≤ 40 ∧ ((vb x.pass = vb false ∧ True) ∧ True) ∧ True ∧ 7 ≤ 40 ∧ T2 (40 ≤ 40 ∧ (T32 (T8 (True))) ∧ Post (Value.agg #[vi 10, vi x.at_, vs x.item, vz, vz, vi x.n, vb false, vz, tree 38 0 #[], vz, vz, vi 0, vi 0, vi 0, vz, vz, vz, vz, vi 0, vz, vz, vi 0, tree 5 0 #[], vz, vi 0, tree 1 0 #[], vz, vi 0, vi 0, vi 0, vi 0, vi 0, vi 0, tree 1 0 #[], vz, tree 4 0 #[], vz, vi 0, vi 0, vi 0]))))))))) := by kernel_rfl
theorem e_rplain11 (x : Event) (H : HT) (Post : PV) : vcP Tryz.prog callRPl 23 [] [.agg (.int .i64 11 :: (eventC x).tail).toArray] H Post = (T8 (40 ≤ 40 ∧ T16 (T4 (T2 (3 ≤ 40 ∧ T8 (T4 (True ∧ 4 ≤ 40 ∧ T16 (T2 (5 ≤ 40 ∧ T16 (T4 (True ∧ 40 ≤ 40 ∧ (T32 (T8 (True))) ∧ Post (Value.agg #[vi 11, vi x.at_, vs x.item, vs x.of_, vs x.by_, vi 0, vb false, vz, tree 38 0 #[], vz, vz, vi 0, vi 0, vi 0, vz, vz, vz, vz, vi 0, vz, vz, vi 0, tree 5 0 #[], vz, vi 0, tree 1 0 #[], vz, vi 0, vi 0, vi 0, vi 0, vi 0, vi 0, tree 1 0 #[], vz, tree 4 0 #[], vz, vi 0, vi 0, vi 0])))))))))))) := by kernel_rfl
theorem e_rplain12 (x : Event) (H : HT) (Post : PV) : vcP Tryz.prog callRPl 23 [] [.agg (.int .i64 12 :: (eventC x).tail).toArray] H Post = (T8 (40 ≤ 40 ∧ T16 (3 ≤ 40 ∧ T32 (T16 (40 ≤ 40 ∧ (T32 (T8 (True))) ∧ Post (Value.agg #[vi 12, vi x.at_, vs x.item, vz, vz, vi 0, vb false, vz, tree 38 0 #[], vz, vz, vi 0, vi 0, vi 0, vz, vz, vz, vz, vi 0, vz, vz, vi 0, tree 5 0 #[], vz, vi 0, tree 1 0 #[], vz, vi 0, vi 0, vi 0, vi 0, vi 0, vi 0, tree 1 0 #[], vz, tree 4 0 #[], vz, vi 0, vi 0, vi 0])))))) := by kernel_rfl
theorem e_rplain13 (x : Event) (H : HT) (Post : PV) : vcP Tryz.prog callRPl 23 [] [.agg (.int .i64 13 :: (eventC x).tail).toArray] H Post = (T8 (40 ≤ 40 ∧ T32 (T32 (T2 (True ∧ 34 ≤ 40 ∧ T2 (28 ≤ 40 ∧ T2 (34 ≤ 40 ∧ True ∧ 40 ≤ 40 ∧ (T32 (T8 (True))) ∧ Post (Value.agg #[vi 13, vi x.at_, vz, vz, vz, vi 0, vb false, vz, tree 38 0 #[], vz, vz, vi 0, vi 0, vi 0, vz, vz, vz, vz, vi 0, vz, vz, vi 0, tree 5 0 #[], vz, vi 0, tree 1 0 #[], vs x.weig.block, vi 0, vi x.weig.mass, vi x.weig.centre.x, vi x.weig.centre.y, vi x.weig.centre.z, vi x.weig.sigma, tree 1 0 #[], vz, tree 4 0 #[], vz, vi 0, vi 0, vi 0])))))))) := by kernel_rfl
theorem e_rplain14 (x : Event) (H : HT) (Post : PV) : vcP Tryz.prog callRPl 23 [] [.agg (.int .i64 14 :: (eventC x).tail).toArray] H Post = (T8 (40 ≤ 40 ∧ T32 (T32 (T4 (True ∧ 36 ≤ 40 ∧ True ∧ 40 ≤ 40 ∧ (T32 (T8 (True))) ∧ Post (Value.agg #[vi 14, vi x.at_, vz, vz, vz, vi 0, vb false, vz, tree 38 0 #[], vz, vz, vi 0, vi 0, vi 0, vz, vz, vz, vz, vi 0, vz, vz, vi 0, tree 5 0 #[], vz, vi 0, tree 1 0 #[], vz, vi 0, vi 0, vi 0, vi 0, vi 0, vi 0, tree 1 0 #[], vs x.lift.block, tree 4 x.lift.hooks.length (encL x.lift.hooks), vz, vi 0, vi 0, vi 0])))))) := by kernel_rfl
theorem e_rplain15 (x : Event) (H : HT) (Post : PV) : vcP Tryz.prog callRPl 23 [] [.agg (.int .i64 15 :: (eventC x).tail).toArray] H Post = (T8 (40 ≤ 40 ∧ T32 (T32 (T4 (T2 (True ∧ 40 ≤ 40 ∧ True ∧ 40 ≤ 40 ∧ (T32 (T8 (True))) ∧ Post (Value.agg #[vi 15, vi x.at_, vz, vz, vz, vi 0, vb false, vz, tree 38 0 #[], vz, vz, vi 0, vi 0, vi 0, vz, vz, vz, vz, vi 0, vz, vz, vi 0, tree 5 0 #[], vz, vi 0, tree 1 0 #[], vz, vi 0, vi 0, vi 0, vi 0, vi 0, vi 0, tree 1 0 #[], vz, tree 4 0 #[], vs x.permit.id, vi x.permit.kind, vi x.permit.time.a, vi x.permit.time.b]))))))) := by kernel_rfl
theorem e_rplain16 (x : Event) (H : HT) (Post : PV) : vcP Tryz.prog callRPl 23 [] [.agg (.int .i64 16 :: (eventC x).tail).toArray] H Post = (T8 (40 ≤ 40 ∧ T16 (T2 (3 ≤ 40 ∧ T32 (T16 (40 ≤ 40 ∧ (T32 (T8 (True))) ∧ Post (Value.agg #[vi 16, vi x.at_, vs x.item, vz, vz, vi 0, vb false, vz, tree 38 0 #[], vz, vz, vi 0, vi 0, vi 0, vz, vz, vz, vz, vi 0, vz, vz, vi 0, tree 5 0 #[], vz, vi 0, tree 1 0 #[], vz, vi 0, vi 0, vi 0, vi 0, vi 0, vi 0, tree 1 0 #[], vz, tree 4 0 #[], vz, vi 0, vi 0, vi 0]))))))) := by kernel_rfl
theorem e_rplain17 (x : Event) (H : HT) (Post : PV) : vcP Tryz.prog callRPl 23 [] [.agg (.int .i64 17 :: (eventC x).tail).toArray] H Post = (T8 (40 ≤ 40 ∧ T32 (T32 (T4 (True ∧ 40 ≤ 40 ∧ (T32 (T8 (True))) ∧ Post (Value.agg #[vi 17, vi x.at_, vz, vz, vz, vi 0, vb false, vz, tree 38 0 #[], vz, vz, vi 0, vi 0, vi 0, vz, vz, vz, vz, vi 0, vz, vz, vi 0, tree 5 0 #[], vz, vi 0, tree 1 0 #[], vz, vi 0, vi 0, vi 0, vi 0, vi 0, vi 0, tree 1 0 #[], vz, tree 4 0 #[], vz, vi 0, vi 0, vi 0])))))) := by kernel_rfl
theorem e_rplain18 (x : Event) (H : HT) (Post : PV) : vcP Tryz.prog callRPl 23 [] [.agg (.int .i64 18 :: (eventC x).tail).toArray] H Post = (T8 (40 ≤ 40 ∧ T32 (T32 (T4 (True ∧ 40 ≤ 40 ∧ (T32 (T8 (True))) ∧ Post (Value.agg #[vi 18, vi x.at_, vz, vz, vz, vi 0, vb false, vz, tree 38 0 #[], vz, vz, vi 0, vi 0, vi 0, vz, vz, vz, vz, vi 0, vz, vz, vi 0, tree 5 0 #[], vz, vi 0, tree 1 0 #[], vz, vi 0, vi 0, vi 0, vi 0, vi 0, vi 0, tree 1 0 #[], vz, tree 4 0 #[], vz, vi 0, vi 0, vi 0])))))) := by kernel_rfl
def c_rplain (args : List Value) (Post : Value → Prop) : Prop := ∃ x : Event, args = [eventV x] ∧ 1 ≤ x.kind ∧ x.kind ≤ 18 ∧ Post (eventV (plainK x.kind x))
theorem ok_rplain : EntOk Tryz.prog ⟨23, c_rplain⟩ := by
 rintro args Post ⟨x, rfl, h1, h2, h⟩
 have hk := kinds h1 h2
 obtain ⟨k, a, i, o, b, n, p, ord, sh, bar, nest, saw, weig, lift, per⟩ := x
 simp only at hk
 rcases hk with rfl | rfl | rfl | rfl | rfl | rfl | rfl | rfl | rfl | rfl | rfl | rfl | rfl | rfl | rfl | rfl | rfl | rfl
 ·refine pure_P (vc := callRPl) callRPl_ok mixed (by kernel_rfl) (by kernel_rfl) _ (e_rplain1 ⟨1, a, i, o, b, n, p, ord, sh, bar, nest, saw, weig, lift, per⟩ _ _) ?_
  repeat' (first | exact rfl | refine And.intro ?_ ?_ | trivial | decide | exact of_v h (by kernel_rfl))
 ·refine pure_P (vc := callRPl) callRPl_ok mixed (by kernel_rfl) (by kernel_rfl) _ (e_rplain2 ⟨2, a, i, o, b, n, p, ord, sh, bar, nest, saw, weig, lift, per⟩ _ _) ?_
  repeat' (first | exact rfl | refine And.intro ?_ ?_ | trivial | decide | exact of_v h (by kernel_rfl))
 ·refine pure_P (vc := callRPl) callRPl_ok mixed (by kernel_rfl) (by kernel_rfl) _ (e_rplain3 ⟨3, a, i, o, b, n, p, ord, sh, bar, nest, saw, weig, lift, per⟩ _ _) ?_
  repeat' (first | exact rfl | refine And.intro ?_ ?_ | trivial | decide | exact of_v h (by kernel_rfl))
 ·refine pure_P (vc := callRPl) callRPl_ok mixed (by kernel_rfl) (by kernel_rfl) _ (e_rplain4 ⟨4, a, i, o, b, n, p, ord, sh, bar, nest, saw, weig, lift, per⟩ _ _) ?_
  repeat' (first | exact rfl | refine And.intro ?_ ?_ | trivial | decide | exact of_v h (by kernel_rfl))
 ·refine pure_P (vc := callRPl) callRPl_ok mixed (by kernel_rfl) (by kernel_rfl) _ (e_rplain5 ⟨5, a, i, o, b, n, p, ord, sh, bar, nest, saw, weig, lift, per⟩ _ _) ?_
  repeat' (first | exact rfl | refine And.intro ?_ ?_ | trivial | decide | exact of_v h (by kernel_rfl))
 ·refine pure_P (vc := callRPl) callRPl_ok mixed (by kernel_rfl) (by kernel_rfl) _ (e_rplain6 ⟨6, a, i, o, b, n, p, ord, sh, bar, nest, saw, weig, lift, per⟩ _ _) ?_
  repeat' (first | exact rfl | refine And.intro ?_ ?_ | trivial | decide | exact of_v h (by kernel_rfl))
 ·refine pure_P (vc := callRPl) callRPl_ok mixed (by kernel_rfl) (by kernel_rfl) _ (e_rplain7 ⟨7, a, i, o, b, n, p, ord, sh, bar, nest, saw, weig, lift, per⟩ _ _) ?_
  repeat' (first | exact rfl | refine And.intro ?_ ?_ | trivial | decide | exact of_v h (by kernel_rfl))
 ·refine pure_P (vc := callRPl) callRPl_ok mixed (by kernel_rfl) (by kernel_rfl) _ (e_rplain8 ⟨8, a, i, o, b, n, p, ord, sh, bar, nest, saw, weig, lift, per⟩ _ _) ?_
  repeat' (first | exact rfl | refine And.intro ?_ ?_ | trivial | decide | exact of_v h (by kernel_rfl))
 ·refine pure_P (vc := callRPl) callRPl_ok mixed (by kernel_rfl) (by kernel_rfl) _ (e_rplain9 ⟨9, a, i, o, b, n, p, ord, sh, bar, nest, saw, weig, lift, per⟩ _ _) ?_
  repeat' (first | exact rfl | refine And.intro ?_ ?_ | trivial | decide | exact of_v h (by kernel_rfl))
 ·cases p
  ·refine pure_P (vc := callRPl) callRPl_ok mixed (by kernel_rfl) (by kernel_rfl) _ (e_rplain10 ⟨10, a, i, o, b, n, false, ord, sh, bar, nest, saw, weig, lift, per⟩ _ _) ?_
   repeat' (first | exact rfl | refine pIf_intro (fun hh => (by cases hh)) (fun _ => ?_) | refine And.intro ?_ ?_ | trivial | decide | exact of_v h (by kernel_rfl))
  ·refine pure_P (vc := callRPl) callRPl_ok mixed (by kernel_rfl) (by kernel_rfl) _ (e_rplain10 ⟨10, a, i, o, b, n, true, ord, sh, bar, nest, saw, weig, lift, per⟩ _ _) ?_
   repeat' (first | exact rfl | refine pIf_intro (fun _ => ?_) (fun hh => (by cases hh)) | refine And.intro ?_ ?_ | trivial | decide | exact of_v h (by kernel_rfl))
 ·refine pure_P (vc := callRPl) callRPl_ok mixed (by kernel_rfl) (by kernel_rfl) _ (e_rplain11 ⟨11, a, i, o, b, n, p, ord, sh, bar, nest, saw, weig, lift, per⟩ _ _) ?_
  repeat' (first | exact rfl | refine And.intro ?_ ?_ | trivial | decide | exact of_v h (by kernel_rfl))
 ·refine pure_P (vc := callRPl) callRPl_ok mixed (by kernel_rfl) (by kernel_rfl) _ (e_rplain12 ⟨12, a, i, o, b, n, p, ord, sh, bar, nest, saw, weig, lift, per⟩ _ _) ?_
  repeat' (first | exact rfl | refine And.intro ?_ ?_ | trivial | decide | exact of_v h (by kernel_rfl))
 ·refine pure_P (vc := callRPl) callRPl_ok mixed (by kernel_rfl) (by kernel_rfl) _ (e_rplain13 ⟨13, a, i, o, b, n, p, ord, sh, bar, nest, saw, weig, lift, per⟩ _ _) ?_
  repeat' (first | exact rfl | refine And.intro ?_ ?_ | trivial | decide | exact of_v h (by kernel_rfl))
 ·refine pure_P (vc := callRPl) callRPl_ok mixed (by kernel_rfl) (by kernel_rfl) _ (e_rplain14 ⟨14, a, i, o, b, n, p, ord, sh, bar, nest, saw, weig, lift, per⟩ _ _) ?_
  repeat' (first | exact rfl | refine And.intro ?_ ?_ | trivial | decide | exact of_v h (by kernel_rfl))
 ·refine pure_P (vc := callRPl) callRPl_ok mixed (by kernel_rfl) (by kernel_rfl) _ (e_rplain15 ⟨15, a, i, o, b, n, p, ord, sh, bar, nest, saw, weig, lift, per⟩ _ _) ?_
  repeat' (first | exact rfl | refine And.intro ?_ ?_ | trivial | decide | exact of_v h (by kernel_rfl))
 ·refine pure_P (vc := callRPl) callRPl_ok mixed (by kernel_rfl) (by kernel_rfl) _ (e_rplain16 ⟨16, a, i, o, b, n, p, ord, sh, bar, nest, saw, weig, lift, per⟩ _ _) ?_
  repeat' (first | exact rfl | refine And.intro ?_ ?_ | trivial | decide | exact of_v h (by kernel_rfl))
 ·refine pure_P (vc := callRPl) callRPl_ok mixed (by kernel_rfl) (by kernel_rfl) _ (e_rplain17 ⟨17, a, i, o, b, n, p, ord, sh, bar, nest, saw, weig, lift, per⟩ _ _) ?_
  repeat' (first | exact rfl | refine And.intro ?_ ?_ | trivial | decide | exact of_v h (by kernel_rfl))
 ·refine pure_P (vc := callRPl) callRPl_ok mixed (by kernel_rfl) (by kernel_rfl) _ (e_rplain18 ⟨18, a, i, o, b, n, p, ord, sh, bar, nest, saw, weig, lift, per⟩ _ _) ?_
  repeat' (first | exact rfl | refine And.intro ?_ ?_ | trivial | decide | exact of_v h (by kernel_rfl))
def stL (x : Event) (s : Nat) (L : List Value) (k : Nat) (i : Int) : AS := stV [(1, some (.pointer (some ⟨0, 0, none⟩))), (3, some (.slice (some ⟨1, 0, none⟩) k 1)), (s, some (.int .i64 i))] [(0, some (.cells (eventC x) true)), (1, some (.cells L true))] 2
theorem e_strs (x : Event) (H : HT) (Post : PV) : vcP Tryz.prog noCall 29 [(3, [1, 3, 4]), (7, [1, 3, 5]), (11, [1, 3, 6])] [eventV x] H Post = (let q1 := [vs x.item, vs x.of_, vs x.by_, vs x.sheet.id, vs x.sheet.grade, vs x.sheet.heat, vs x.bar.id, vs x.bar.sect, vs x.bar.grade, vs x.bar.heat, vs x.nest.sheet, vs x.saw.bar, vs x.weig.block, vs x.lift.block, vs x.permit.id]; T32 (T16 ((True ∧ NLs q1 ∧ True) ∧ H (lpC Tryz.prog 29 3) (lpK Tryz.prog 29 3) (stV [(1, some (pt 0)), (3, some (Value.slice (some (Addr.mk 1 0 none)) 15 1)), (4, some (vi 0))] [(0, some (AObj.cells (evK x.kind x) true)), (1, some (AObj.cells q1 true))] 2)))) := by kernel_rfl
theorem l_strs1 (x : Event) (L : List Value) (k : Nat) (i : Int) (H : HT) (Post : PV) : vcLP Tryz.prog noCall 29 [eventV x] [(3, [1, 3, 4]), (7, [1, 3, 5]), (11, [1, 3, 6])] 3 (stL x 4 L k i) H Post = (let q1 := toS (cellAt (encL x.nest.spots) (Int.toNat i) 0); T4 (T2 (pIf (decide (i < (↑x.nest.spots.length : Int))) (T4 (True ∧ (0 ≤ i ∧ i < (↑x.nest.spots.length : Int)) ∧ True ∧ cellAt (encL x.nest.spots) (Int.toNat i) 0 = vs q1 ∧ True ∧ 1 ≤ 1 ∧ k + 1 ≤ 33554432 ∧ true = true ∧ 1 = 1 ∧ 0 + k * 1 = List.length L ∧ T4 (True ∧ (True ∧ NLs (L ++ [vs q1]) ∧ True) ∧ H (lpC Tryz.prog 29 3) (lpK Tryz.prog 29 3) (stV [(1, some (pt 0)), (3, some (Value.slice (some (Addr.mk 1 0 none)) (k + 1) 1)), (4, some (vi (IntKind.wrap IntKind.i64 (i + 1))))] [(0, some (AObj.cells (evK x.kind x) true)), (1, some (AObj.cells (L ++ [vs q1]) true))] 2)))) (T2 ((True ∧ NLs L ∧ True) ∧ H (lpC Tryz.prog 29 7) (lpK Tryz.prog 29 7) (stV [(1, some (pt 0)), (3, some (Value.slice (some (Addr.mk 1 0 none)) k 1)), (5, some (vi 0))] [(0, some (AObj.cells (evK x.kind x) true)), (1, some (AObj.cells L true))] 2)))))) := by kernel_rfl
theorem l_strs2 (x : Event) (L : List Value) (k : Nat) (i : Int) (H : HT) (Post : PV) : vcLP Tryz.prog noCall 29 [eventV x] [(3, [1, 3, 4]), (7, [1, 3, 5]), (11, [1, 3, 6])] 7 (stL x 5 L k i) H Post = (let q1 := toS (cellAt (encL x.saw.parts) (Int.toNat i) 0); T4 (T2 (pIf (decide (i < (↑x.saw.parts.length : Int))) (T4 (True ∧ (0 ≤ i ∧ i < (↑x.saw.parts.length : Int)) ∧ cellAt (encL x.saw.parts) (Int.toNat i) 0 = vs q1 ∧ True ∧ 1 ≤ 1 ∧ k + 1 ≤ 33554432 ∧ true = true ∧ 1 = 1 ∧ 0 + k * 1 = List.length L ∧ T4 (True ∧ (True ∧ NLs (L ++ [vs q1]) ∧ True) ∧ H (lpC Tryz.prog 29 7) (lpK Tryz.prog 29 7) (stV [(1, some (pt 0)), (3, some (Value.slice (some (Addr.mk 1 0 none)) (k + 1) 1)), (5, some (vi (IntKind.wrap IntKind.i64 (i + 1))))] [(0, some (AObj.cells (evK x.kind x) true)), (1, some (AObj.cells (L ++ [vs q1]) true))] 2)))) (T2 ((True ∧ NLs L ∧ True) ∧ H (lpC Tryz.prog 29 11) (lpK Tryz.prog 29 11) (stV [(1, some (pt 0)), (3, some (Value.slice (some (Addr.mk 1 0 none)) k 1)), (6, some (vi 0))] [(0, some (AObj.cells (evK x.kind x) true)), (1, some (AObj.cells L true))] 2)))))) := by kernel_rfl
theorem l_strs3 (x : Event) (L : List Value) (k : Nat) (i : Int) (H : HT) (Post : PV) : vcLP Tryz.prog noCall 29 [eventV x] [(3, [1, 3, 4]), (7, [1, 3, 5]), (11, [1, 3, 6])] 11 (stL x 6 L k i) H Post = (let q1 := toS (cellAt (encL x.lift.hooks) (Int.toNat i) 0); T4 (T2 (pIf (decide (i < (↑x.lift.hooks.length : Int))) (T4 (True ∧ (0 ≤ i ∧ i < (↑x.lift.hooks.length : Int)) ∧ True ∧ cellAt (encL x.lift.hooks) (Int.toNat i) 0 = vs q1 ∧ True ∧ 1 ≤ 1 ∧ k + 1 ≤ 33554432 ∧ true = true ∧ 1 = 1 ∧ 0 + k * 1 = List.length L ∧ T4 (True ∧ (True ∧ NLs (L ++ [vs q1]) ∧ True) ∧ H (lpC Tryz.prog 29 11) (lpK Tryz.prog 29 11) (stV [(1, some (pt 0)), (3, some (Value.slice (some (Addr.mk 1 0 none)) (k + 1) 1)), (6, some (vi (IntKind.wrap IntKind.i64 (i + 1))))] [(0, some (AObj.cells (evK x.kind x) true)), (1, some (AObj.cells (L ++ [vs q1]) true))] 2)))) (T2 ((0 + k * 1 ≤ List.length L ∧ NLs L) ∧ Post (tree 1 k (chunks 1 k (List.drop 0 L)))))))) := by kernel_rfl
theorem e_nums (x : Event) (H : HT) (Post : PV) : vcP Tryz.prog noCall 30 [(3, [1, 3, 4]), (7, [1, 3, 5])] [eventV x] H Post = (let q1 := [vi x.n, vi x.sheet.thick, vi x.sheet.long, vi x.sheet.width, vi x.bar.long, vi x.nest.gap, vi x.saw.kerf, vi x.weig.mass, vi x.weig.centre.x, vi x.weig.centre.y, vi x.weig.centre.z, vi x.weig.sigma, vi x.permit.kind, vi x.permit.time.a, vi x.permit.time.b]; T32 (T16 (T4 (T2 (True ∧ (True ∧ NLs q1 ∧ True) ∧ H (lpC Tryz.prog 30 3) (lpK Tryz.prog 30 3) (stV [(1, some (pt 0)), (3, some (Value.slice (some (Addr.mk 1 0 none)) 15 1)), (4, some (vi 0))] [(0, some (AObj.cells (evK x.kind x) true)), (1, some (AObj.cells q1 true))] 2)))))) := by kernel_rfl
theorem l_nums1 (x : Event) (L : List Value) (k : Nat) (i : Int) (H : HT) (Post : PV) : vcLP Tryz.prog noCall 30 [eventV x] [(3, [1, 3, 4]), (7, [1, 3, 5])] 3 (stL x 4 L k i) H Post = (let q2 := (0 ≤ i ∧ i < (↑x.nest.spots.length : Int)); let q1 := L ++ [vi (toI (cellAt (encL x.nest.spots) (Int.toNat i) 1)), vi (toI (cellAt (encL x.nest.spots) (Int.toNat i) 2)), vi (toI (cellAt (encL x.nest.spots) (Int.toNat i) 3))]; T4 (T2 (pIf (decide (i < (↑x.nest.spots.length : Int))) (T4 (True ∧ q2 ∧ T2 (cellAt (encL x.nest.spots) (Int.toNat i) 1 = vi (toI (cellAt (encL x.nest.spots) (Int.toNat i) 1)) ∧ T4 (q2 ∧ T2 (cellAt (encL x.nest.spots) (Int.toNat i) 2 = vi (toI (cellAt (encL x.nest.spots) (Int.toNat i) 2)) ∧ T4 (q2 ∧ True ∧ cellAt (encL x.nest.spots) (Int.toNat i) 3 = vi (toI (cellAt (encL x.nest.spots) (Int.toNat i) 3)) ∧ True ∧ 3 ≤ 3 ∧ k + 3 ≤ 33554432 ∧ true = true ∧ 3 = 3 ∧ 0 + k * 1 = List.length L ∧ T4 (T2 ((True ∧ NLs q1 ∧ True) ∧ H (lpC Tryz.prog 30 3) (lpK Tryz.prog 30 3) (stV [(1, some (pt 0)), (3, some (Value.slice (some (Addr.mk 1 0 none)) (k + 3) 1)), (4, some (vi (IntKind.wrap IntKind.i64 (i + 1))))] [(0, some (AObj.cells (evK x.kind x) true)), (1, some (AObj.cells q1 true))] 2))))))))) (T2 ((True ∧ NLs L ∧ True) ∧ H (lpC Tryz.prog 30 7) (lpK Tryz.prog 30 7) (stV [(1, some (pt 0)), (3, some (Value.slice (some (Addr.mk 1 0 none)) k 1)), (5, some (vi 0))] [(0, some (AObj.cells (evK x.kind x) true)), (1, some (AObj.cells L true))] 2)))))) := by kernel_rfl
theorem l_nums2 (x : Event) (L : List Value) (k : Nat) (i : Int) (H : HT) (Post : PV) : vcLP Tryz.prog noCall 30 [eventV x] [(3, [1, 3, 4]), (7, [1, 3, 5])] 7 (stL x 5 L k i) H Post = (let q2 := (0 ≤ i ∧ i < (↑x.lift.hooks.length : Int)); let q1 := L ++ [vi (toI (cellAt (encL x.lift.hooks) (Int.toNat i) 1)), vi (toI (cellAt (encL x.lift.hooks) (Int.toNat i) 2)), vi (toI (cellAt (encL x.lift.hooks) (Int.toNat i) 3))]; T4 (T2 (pIf (decide (i < (↑x.lift.hooks.length : Int))) (T4 (True ∧ q2 ∧ T2 (cellAt (encL x.lift.hooks) (Int.toNat i) 1 = vi (toI (cellAt (encL x.lift.hooks) (Int.toNat i) 1)) ∧ T4 (q2 ∧ T2 (cellAt (encL x.lift.hooks) (Int.toNat i) 2 = vi (toI (cellAt (encL x.lift.hooks) (Int.toNat i) 2)) ∧ T4 (q2 ∧ True ∧ cellAt (encL x.lift.hooks) (Int.toNat i) 3 = vi (toI (cellAt (encL x.lift.hooks) (Int.toNat i) 3)) ∧ True ∧ 3 ≤ 3 ∧ k + 3 ≤ 33554432 ∧ true = true ∧ 3 = 3 ∧ 0 + k * 1 = List.length L ∧ T4 (T2 ((True ∧ NLs q1 ∧ True) ∧ H (lpC Tryz.prog 30 7) (lpK Tryz.prog 30 7) (stV [(1, some (pt 0)), (3, some (Value.slice (some (Addr.mk 1 0 none)) (k + 3) 1)), (5, some (vi (IntKind.wrap IntKind.i64 (i + 1))))] [(0, some (AObj.cells (evK x.kind x) true)), (1, some (AObj.cells q1 true))] 2))))))))) (T2 ((0 + k * 1 ≤ List.length L ∧ NLs L) ∧ Post (tree 1 k (chunks 1 k (List.drop 0 L)))))))) := by kernel_rfl
def strL0 (x : Event) : List ByteArray := [x.item, x.of_, x.by_, x.sheet.id, x.sheet.grade, x.sheet.heat, x.bar.id, x.bar.sect, x.bar.grade, x.bar.heat, x.nest.sheet, x.saw.bar, x.weig.block, x.lift.block, x.permit.id]
def strL (x : Event) : List ByteArray := strL0 x ++ x.nest.spots.map (·.part) ++ x.saw.parts ++ x.lift.hooks.map (·.crane)
def numL0 (x : Event) : List Int := [x.n, x.sheet.thick, x.sheet.long, x.sheet.width, x.bar.long, x.nest.gap, x.saw.kerf, x.weig.mass, x.weig.centre.x, x.weig.centre.y, x.weig.centre.z, x.weig.sigma, x.permit.kind, x.permit.time.a, x.permit.time.b]
def numL (x : Event) : List Int := numL0 x ++ x.nest.spots.flatMap (fun s => [s.at_.x, s.at_.y, s.turn]) ++ x.lift.hooks.flatMap (fun h => [h.at_.x, h.at_.y, h.radius])
theorem NLs_strs (l : List ByteArray) : NLs (l.map Value.string) := fun v hv => by
 obtain ⟨s, _, rfl⟩ := List.mem_map.1 hv
 rfl
theorem NLs_ints (l : List Int) : NLs (l.map (Value.int .i64)) := fun v hv => by
 obtain ⟨s, _, rfl⟩ := List.mem_map.1 hv
 rfl
structure Few1k (x : Event) : Prop where
 spots : x.nest.spots.length ≤ 1000
 saw : x.saw.parts.length ≤ 1000
 hooks : x.lift.hooks.length ≤ 1000
def c_estrs (args : List Value) (Post : Value → Prop) : Prop := ∃ x : Event, args = [eventV x] ∧ Few1k x ∧ Post (tree 1 (strL x).length (encL (strL x)))
def c_enums (args : List Value) (Post : Value → Prop) : Prop := ∃ x : Event, args = [eventV x] ∧ Few1k x ∧ Post (tree 1 (numL x).length (encL (numL x)))
theorem take_map {α β : Type} {l : List α} {f : α → β} {k : Nat} (h : k < l.length) : (l.take (k + 1)).map f = (l.take k).map f ++ [f l[k]] := by
 rw [List.take_succ_eq_append_getElem h, List.map_append]; rfl
theorem take_flat {α β : Type} {l : List α} {f : α → List β} {k : Nat} (h : k < l.length) : (l.take (k + 1)).flatMap f = (l.take k).flatMap f ++ f l[k] := by
 rw [List.take_succ_eq_append_getElem h, List.flatMap_append]; simp
theorem ok_estrs : EntOk Tryz.prog ⟨29, c_estrs⟩ := by
 rintro args Post ⟨x, rfl, hf, h⟩
 have f1 := hf.spots
 have f2 := hf.saw
 have f3 := hf.hooks
 have r3 := down (n := x.lift.hooks.length) (p := fun k => OkP 29 [eventV x] 11 Post (stL x 6 ((strL0 x ++ x.nest.spots.map (·.part) ++ x.saw.parts ++ (x.lift.hooks.take k).map (·.crane)).map Value.string) (strL0 x ++ x.nest.spots.map (·.part) ++ x.saw.parts ++ (x.lift.hooks.take k).map (·.crane)).length k)) ?_ ?_
 have r2 := down (n := x.saw.parts.length) (p := fun k => OkP 29 [eventV x] 7 Post (stL x 5 ((strL0 x ++ x.nest.spots.map (·.part) ++ x.saw.parts.take k).map Value.string) (strL0 x ++ x.nest.spots.map (·.part) ++ x.saw.parts.take k).length k)) ?_ ?_
 have r1 := down (n := x.nest.spots.length) (p := fun k => OkP 29 [eventV x] 3 Post (stL x 4 ((strL0 x ++ (x.nest.spots.take k).map (·.part)).map Value.string) (strL0 x ++ (x.nest.spots.take k).map (·.part)).length k)) ?_ ?_
 ·refine pure_P (vc := noCall) noCall_ok mixed (by kernel_rfl) (by kernel_rfl) _ (e_strs x _ _) ?_
  simp only [true_and]
  exact ⟨⟨NLs_strs (strL0 x), trivial⟩, r1⟩
 ·refine ok_P (vc := noCall) noCall_ok mixed _ (l_strs1 x _ _ _ _ _) ?_
  simp only [true_and]
  refine pIfD (fun hh => absurd hh (by omega)) (fun _ => ⟨⟨NLs_strs _, trivial⟩, ?_⟩)
  rw [List.take_of_length_le (Nat.le_refl _)]
  simp only [List.take_zero, List.append_nil] at r2
  exact r2
 ·intro k hk ih
  refine ok_P (vc := noCall) noCall_ok mixed _ (l_strs1 x _ _ _ _ _) ?_
  have ek : ((k : Nat) : Int).toNat = k := by omega
  simp only [true_and, ek, cell_spot hk, spotC, List.getElem?_cons_zero, Option.getD_some, toS, wrapSucc (show k < 2 ^ 62 by omega)]
  refine pIfD (fun _ => ⟨⟨by omega, by omega⟩, by omega, by simp [strL0]; omega, by simp, ⟨?_, trivial⟩, ?_⟩) (fun hh => absurd hh (by omega))
  ·have := NLs_strs (strL0 x ++ (x.nest.spots.take k).map (·.part) ++ [x.nest.spots[k].part])
   rwa [List.map_append] at this
  ·rw [take_map hk, ← List.append_assoc, List.map_append, List.length_append] at ih
   exact ih
 ·refine ok_P (vc := noCall) noCall_ok mixed _ (l_strs2 x _ _ _ _ _) ?_
  simp only [true_and]
  refine pIfD (fun hh => absurd hh (by omega)) (fun _ => ⟨⟨NLs_strs _, trivial⟩, ?_⟩)
  rw [List.take_of_length_le (Nat.le_refl _)]
  simp only [List.take_zero, List.map_nil, List.append_nil] at r3
  exact r3
 ·intro k hk ih
  refine ok_P (vc := noCall) noCall_ok mixed _ (l_strs2 x _ _ _ _ _) ?_
  have ek : ((k : Nat) : Int).toNat = k := by omega
  simp only [true_and, ek, cell_str hk, toS, wrapSucc (show k < 2 ^ 62 by omega)]
  refine pIfD (fun _ => ⟨⟨by omega, by omega⟩, by omega, by simp [strL0]; omega, by simp, ⟨?_, trivial⟩, ?_⟩) (fun hh => absurd hh (by omega))
  ·have := NLs_strs (strL0 x ++ x.nest.spots.map (·.part) ++ x.saw.parts.take k ++ [x.saw.parts[k]])
   rwa [List.map_append] at this
  ·rw [List.take_succ_eq_append_getElem hk, ← List.append_assoc, List.map_append, List.length_append] at ih
   exact ih
 ·refine ok_P (vc := noCall) noCall_ok mixed _ (l_strs3 x _ _ _ _ _) ?_
  simp only [true_and]
  refine pIfD (fun hh => absurd hh (by omega)) (fun _ => ?_)
  rw [List.take_of_length_le (Nat.le_refl _)]
  refine ⟨⟨by simp, NLs_strs _⟩, ?_⟩
  refine of_v h ?_
  have e : chunks 1 (strL x).length (List.drop 0 ((strL x).map Value.string)) = encL (strL x) := by
   show (((strL x).map Value.string).take _).toArray = _
   rw [List.take_of_length_le (by simp)]
   rfl
  exact (congrArg (tree 1 (strL x).length) e).symm
 ·intro k hk ih
  refine ok_P (vc := noCall) noCall_ok mixed _ (l_strs3 x _ _ _ _ _) ?_
  have ek : ((k : Nat) : Int).toNat = k := by omega
  simp only [true_and, ek, cell_hook hk, hook4C, List.getElem?_cons_zero, Option.getD_some, toS, wrapSucc (show k < 2 ^ 62 by omega)]
  refine pIfD (fun _ => ⟨⟨by omega, by omega⟩, by omega, by simp [strL0]; omega, by simp, ⟨?_, trivial⟩, ?_⟩) (fun hh => absurd hh (by omega))
  ·have := NLs_strs (strL0 x ++ x.nest.spots.map (·.part) ++ x.saw.parts ++ (x.lift.hooks.take k).map (·.crane) ++ [x.lift.hooks[k].crane])
   rwa [List.map_append] at this
  ·rw [take_map hk, ← List.append_assoc, List.map_append, List.length_append] at ih
   exact ih
theorem ok_enums : EntOk Tryz.prog ⟨30, c_enums⟩ := by
 rintro args Post ⟨x, rfl, hf, h⟩
 have f1 := hf.spots
 have f3 := hf.hooks
 have l1 : ∀ k, (((x.nest.spots.take k).flatMap fun s => [s.at_.x, s.at_.y, s.turn])).length ≤ 3000 := fun k => by
  rw [List.length_flatMap]
  have : ∀ l : List Spot, (l.map fun s => [s.at_.x, s.at_.y, s.turn].length).sum = 3 * l.length := fun l => by
   induction l with
   | nil => rfl
   | cons a l ih => rw [List.map_cons, List.sum_cons, ih]; simp; omega
  rw [this, List.length_take]
  omega
 have l3 : ∀ k, (((x.lift.hooks.take k).flatMap fun h => [h.at_.x, h.at_.y, h.radius])).length ≤ 3000 := fun k => by
  rw [List.length_flatMap]
  have : ∀ l : List Hook4, (l.map fun h => [h.at_.x, h.at_.y, h.radius].length).sum = 3 * l.length := fun l => by
   induction l with
   | nil => rfl
   | cons a l ih => rw [List.map_cons, List.sum_cons, ih]; simp; omega
  rw [this, List.length_take]
  omega
 have l1' := l1 x.nest.spots.length
 rw [List.take_of_length_le (Nat.le_refl _)] at l1'
 have r3 := down (n := x.lift.hooks.length) (p := fun k => OkP 30 [eventV x] 7 Post (stL x 5 ((numL0 x ++ x.nest.spots.flatMap (fun s => [s.at_.x, s.at_.y, s.turn]) ++ (x.lift.hooks.take k).flatMap (fun h => [h.at_.x, h.at_.y, h.radius])).map (Value.int .i64)) (numL0 x ++ x.nest.spots.flatMap (fun s => [s.at_.x, s.at_.y, s.turn]) ++ (x.lift.hooks.take k).flatMap (fun h => [h.at_.x, h.at_.y, h.radius])).length k)) ?_ ?_
 have r1 := down (n := x.nest.spots.length) (p := fun k => OkP 30 [eventV x] 3 Post (stL x 4 ((numL0 x ++ (x.nest.spots.take k).flatMap (fun s => [s.at_.x, s.at_.y, s.turn])).map (Value.int .i64)) (numL0 x ++ (x.nest.spots.take k).flatMap (fun s => [s.at_.x, s.at_.y, s.turn])).length k)) ?_ ?_
 ·refine pure_P (vc := noCall) noCall_ok mixed (by kernel_rfl) (by kernel_rfl) _ (e_nums x _ _) ?_
  simp only [true_and]
  exact ⟨⟨NLs_ints (numL0 x), trivial⟩, r1⟩
 ·refine ok_P (vc := noCall) noCall_ok mixed _ (l_nums1 x _ _ _ _ _) ?_
  simp only [true_and]
  refine pIfD (fun hh => absurd hh (by omega)) (fun _ => ⟨⟨NLs_ints _, trivial⟩, ?_⟩)
  rw [List.take_of_length_le (Nat.le_refl _)]
  simp only [List.take_zero, List.flatMap_nil, List.append_nil] at r3
  exact r3
 ·intro k hk ih
  refine ok_P (vc := noCall) noCall_ok mixed _ (l_nums1 x _ _ _ _ _) ?_
  have ek : ((k : Nat) : Int).toNat = k := by omega
  have lk := l1 k
  have l0 : (numL0 x).length = 15 := rfl
  simp only [true_and, ek, cell_spot hk, spotC, List.getElem?_cons_succ, List.getElem?_cons_zero, Option.getD_some, toI, wrapSucc (show k < 2 ^ 62 by omega)]
  refine pIfD (fun _ => ⟨⟨by omega, by omega⟩, ⟨by omega, by omega⟩, ⟨by omega, by omega⟩, by omega, by rw [List.length_append]; omega, by rw [List.length_map]; omega, ⟨?_, trivial⟩, ?_⟩) (fun hh => absurd hh (by omega))
  ·have := NLs_ints (numL0 x ++ (x.nest.spots.take k).flatMap (fun s => [s.at_.x, s.at_.y, s.turn]) ++ [x.nest.spots[k].at_.x, x.nest.spots[k].at_.y, x.nest.spots[k].turn])
   rwa [List.map_append] at this
  ·rw [take_flat hk, ← List.append_assoc, List.map_append, List.length_append] at ih
   exact ih
 ·refine ok_P (vc := noCall) noCall_ok mixed _ (l_nums2 x _ _ _ _ _) ?_
  simp only [true_and]
  refine pIfD (fun hh => absurd hh (by omega)) (fun _ => ?_)
  rw [List.take_of_length_le (Nat.le_refl _)]
  refine ⟨⟨by rw [List.length_map]; omega, NLs_ints _⟩, ?_⟩
  refine of_v h ?_
  have e : chunks 1 (numL x).length (List.drop 0 ((numL x).map (Value.int .i64))) = encL (numL x) := by
   show (((numL x).map (Value.int .i64)).take _).toArray = _
   rw [List.take_of_length_le (by rw [List.length_map]; exact Nat.le_refl _)]
   rfl
  exact (congrArg (tree 1 (numL x).length) e).symm
 ·intro k hk ih
  refine ok_P (vc := noCall) noCall_ok mixed _ (l_nums2 x _ _ _ _ _) ?_
  have ek : ((k : Nat) : Int).toNat = k := by omega
  have lk := l3 k
  have l0 : (numL0 x).length = 15 := rfl
  simp only [true_and, ek, cell_hook hk, hook4C, List.getElem?_cons_succ, List.getElem?_cons_zero, Option.getD_some, toI, wrapSucc (show k < 2 ^ 62 by omega)]
  refine pIfD (fun _ => ⟨⟨by omega, by omega⟩, ⟨by omega, by omega⟩, ⟨by omega, by omega⟩, by omega, by rw [List.length_append, List.length_append]; omega, by rw [List.length_map]; omega, ⟨?_, trivial⟩, ?_⟩) (fun hh => absurd hh (by omega))
  ·have := NLs_ints (numL0 x ++ x.nest.spots.flatMap (fun s => [s.at_.x, s.at_.y, s.turn]) ++ (x.lift.hooks.take k).flatMap (fun h => [h.at_.x, h.at_.y, h.radius]) ++ [x.lift.hooks[k].at_.x, x.lift.hooks[k].at_.y, x.lift.hooks[k].radius])
   rwa [List.map_append] at this
  ·rw [take_flat hk, ← List.append_assoc, List.map_append, List.length_append] at ih
   exact ih
def c_k (Q : Int → Prop) [∀ k, Decidable (Q k)] (args : List Value) (Post : Value → Prop) : Prop := match args with
 | [.int .i64 k] => Post (.bool (decide (Q k)))
 | _ => False
theorem e_item (k : Int) (H : HT) (Post : PV) : vcP Tryz.prog noCall 24 [] [.int .i64 k] H Post = (let q1 := T2 (True ∧ Post (vb true)); T2 (True ∧ pIf (decide (k = 4)) q1 (T2 (pIf (decide (k = 7)) q1 (T2 (pIf (decide (k = 8)) q1 (T2 (pIf (decide (k = 12)) q1 (T2 (pIf (decide (k = 16)) q1 (T2 (pIf (decide (k = 9)) q1 (T2 (pIf (decide (k = 11)) q1 (T2 (pIf (decide (k = 10)) q1 (T2 (True ∧ Post (vb false))))))))))))))))))) := by kernel_rfl
theorem e_of (k : Int) (H : Code → List Fr → AS → Prop) (Post : Value → Prop) : vcP Tryz.prog noCall 26 [] [.int .i64 k] H Post = (True ∧ True ∧ True ∧ pIf (decide (k = 9)) (True ∧ True ∧ True ∧ True ∧ Post (Value.bool true)) (True ∧ True ∧ True ∧ pIf (decide (k = 11)) (True ∧ True ∧ True ∧ Post (Value.bool true)) (True ∧ True ∧ True ∧ Post (Value.bool false)))) := by kernel_rfl
theorem e_by (k : Int) (H : HT) (Post : PV) : vcP Tryz.prog (inlCall Tryz.prog [26] noCall 1) 28 [] [.int .i64 k] H Post = (T4 (True ∧ pIf (decide (k = 9)) (T4 (T2 (True ∧ Post (vb true)))) (T2 (True ∧ pIf (decide (k = 11)) (T4 (T2 (Post (vb true)))) (T4 (True ∧ pIf (decide (k = 4)) (T2 (True ∧ Post (vb true))) (T2 (True ∧ Post (vb false))))))))) := by kernel_rfl
theorem k_leaf {Q : Int → Prop} [∀ k, Decidable (Q k)] {k : Int} {Post : Value → Prop} (h : Post (.bool (decide (Q k)))) {b : Bool} (e : b = true ↔ Q k) : Post (.bool b) := of_b h (by cases b <;> simp_all)
theorem ok_item : EntOk Tryz.prog ⟨24, c_k isItem⟩ := by
 intro args Post h
 unfold c_k at h
 dsimp only at h
 split at h
 case h_2 => exact h.elim
 rename_i k
 refine pure_P (vc := noCall) noCall_ok mixed (by kernel_rfl) (by kernel_rfl) _ (e_item k _ _) ?_
 simp only [true_and, and_true]
 repeat' (first | refine pIfD (fun hh => ?_) (fun hh => ?_) | (refine k_leaf h ?_; unfold isItem; simp; omega) | (refine k_leaf h ?_; unfold isItem; simp [*]; done))
theorem ok_of : EntOk Tryz.prog ⟨26, c_k isOf⟩ := by
 intro args Post h
 unfold c_k at h
 dsimp only at h
 split at h
 case h_2 => exact h.elim
 rename_i k
 refine pure_P (vc := noCall) noCall_ok mixed (by kernel_rfl) (by kernel_rfl) _ (e_of k _ _) ?_
 simp only [true_and, and_true]
 repeat' (first | refine pIfD (fun hh => ?_) (fun hh => ?_) | (refine k_leaf h ?_; unfold isOf; simp; omega) | (refine k_leaf h ?_; unfold isOf; simp [*]; done))
theorem ok_by : EntOk Tryz.prog ⟨28, c_k isBy⟩ := by
 intro args Post h
 unfold c_k at h
 dsimp only at h
 split at h
 case h_2 => exact h.elim
 rename_i k
 refine pure_P (vc := inlCall Tryz.prog [26] noCall 1) (inlCall_ok mixed noCall_ok 1) mixed (by kernel_rfl) (by kernel_rfl) _ (e_by k _ _) ?_
 simp only [true_and, and_true]
 repeat' (first | refine pIfD (fun hh => ?_) (fun hh => ?_) | (refine k_leaf h ?_; unfold isBy; simp; omega) | (refine k_leaf h ?_; unfold isBy; simp [*]; done))
def tabRC : List Ent := [⟨23, c_rplain⟩, ⟨17, c_rSame⟩, ⟨25, c_id⟩, ⟨27, c_name⟩, ⟨29, c_estrs⟩, ⟨30, c_enums⟩, ⟨24, c_k isItem⟩, ⟨26, c_k isOf⟩, ⟨28, c_k isBy⟩]
def callRC : VCall := tabCall tabRC noCall
theorem callRC_ok : VCallOk Tryz.prog callRC := tabCall_ok (by
 intro e he
 simp only [tabRC, List.mem_cons, List.not_mem_nil, or_false] at he
 rcases he with rfl | rfl | rfl | rfl | rfl | rfl | rfl | rfl | rfl
 ·exact ok_rplain
 ·exact ok_rSame
 ·exact ok_rid
 ·exact ok_rName
 ·exact ok_estrs
 ·exact ok_enums
 ·exact ok_item
 ·exact ok_of
 ·exact ok_by) noCall_ok
theorem e_rcheck (x : Event) (H : HT) (Post : PV) : vcP Tryz.prog callRC 11 [(11, [1, 3, 4]), (19, [1, 5, 6])] [eventV x] H Post = (let q2 := [Value.agg (evK x.kind x).toArray]; let q1 := [(0, some (AObj.cells (evK x.kind x) true))]; T4 (True ∧ pIf (decide (x.kind < 1)) (T4 (Post (vi 10))) (T4 (pIf (decide (x.kind > 18)) (T2 (True ∧ Post (vi 10))) (T4 (pIf (decide (x.at_ < 0)) (T4 (Post (vi 15))) (T4 (pIf (decide (x.at_ > 1048576)) (T2 (True ∧ Post (vi 15))) (T2 (True ∧ ∃ (x_1 : Event), eqL q2 [eventV x_1] ∧ 1 ≤ x_1.kind ∧ x_1.kind ≤ 18 ∧ True ∧ ∃ (a : Event), ∃ (b : Event), eqL [Value.agg (evK x.kind x).toArray, eventV (plainK x_1.kind x_1)] [eventV a, eventV b] ∧ ShortEv a ∧ pIf (decide (a = b)) (T4 (pIf (decide (isItem x.kind)) (T2 (True ∧ ∃ (s : ByteArray), eqL [vs x.item] [vs s] ∧ s.size < 16777000 ∧ pIf (decide (idOk s)) (T4 (True ∧ pIf (decide (isOf x.kind)) (T2 (True ∧ pIf (decide (nameOk x.of_)) (T4 (T2 (pIf (decide (isBy x.kind)) (T2 (True ∧ pIf (decide (nameOk x.by_)) (T4 (∃ (x_2 : Event), eqL q2 [eventV x_2] ∧ Few1k x_2 ∧ T2 (True ∧ (True ∧ True) ∧ H (lpC Tryz.prog 11 11) (lpK Tryz.prog 11 11) (stV [(1, some (pt 0)), (3, some (tree 1 (List.length (strL x_2)) (encL (strL x_2)))), (4, some (vi 0))] q1 1)))) (T4 (True ∧ Post (vi 6))))) (T4 (∃ (x_2 : Event), eqL q2 [eventV x_2] ∧ Few1k x_2 ∧ T2 (True ∧ (True ∧ True) ∧ H (lpC Tryz.prog 11 11) (lpK Tryz.prog 11 11) (stV [(1, some (pt 0)), (3, some (tree 1 (List.length (strL x_2)) (encL (strL x_2)))), (4, some (vi 0))] q1 1))))))) (T4 (T2 (True ∧ Post (vi 6)))))) (T4 (T2 (pIf (decide (isBy x.kind)) (T2 (True ∧ pIf (decide (nameOk x.by_)) (T4 (∃ (x_2 : Event), eqL q2 [eventV x_2] ∧ Few1k x_2 ∧ T2 (True ∧ (True ∧ True) ∧ H (lpC Tryz.prog 11 11) (lpK Tryz.prog 11 11) (stV [(1, some (pt 0)), (3, some (tree 1 (List.length (strL x_2)) (encL (strL x_2)))), (4, some (vi 0))] q1 1)))) (T4 (True ∧ Post (vi 6))))) (T4 (∃ (x_2 : Event), eqL q2 [eventV x_2] ∧ Few1k x_2 ∧ T2 (True ∧ (True ∧ True) ∧ H (lpC Tryz.prog 11 11) (lpK Tryz.prog 11 11) (stV [(1, some (pt 0)), (3, some (tree 1 (List.length (strL x_2)) (encL (strL x_2)))), (4, some (vi 0))] q1 1))))))))) (T8 (Post (vi 6))))) (T4 (True ∧ pIf (decide (isOf x.kind)) (T2 (True ∧ pIf (decide (nameOk x.of_)) (T4 (T2 (pIf (decide (isBy x.kind)) (T2 (True ∧ pIf (decide (nameOk x.by_)) (T4 (∃ (x_2 : Event), eqL q2 [eventV x_2] ∧ Few1k x_2 ∧ T2 (True ∧ (True ∧ True) ∧ H (lpC Tryz.prog 11 11) (lpK Tryz.prog 11 11) (stV [(1, some (pt 0)), (3, some (tree 1 (List.length (strL x_2)) (encL (strL x_2)))), (4, some (vi 0))] q1 1)))) (T4 (True ∧ Post (vi 6))))) (T4 (∃ (x_2 : Event), eqL q2 [eventV x_2] ∧ Few1k x_2 ∧ T2 (True ∧ (True ∧ True) ∧ H (lpC Tryz.prog 11 11) (lpK Tryz.prog 11 11) (stV [(1, some (pt 0)), (3, some (tree 1 (List.length (strL x_2)) (encL (strL x_2)))), (4, some (vi 0))] q1 1))))))) (T4 (T2 (True ∧ Post (vi 6)))))) (T4 (T2 (pIf (decide (isBy x.kind)) (T2 (True ∧ pIf (decide (nameOk x.by_)) (T4 (∃ (x_2 : Event), eqL q2 [eventV x_2] ∧ Few1k x_2 ∧ T2 (True ∧ (True ∧ True) ∧ H (lpC Tryz.prog 11 11) (lpK Tryz.prog 11 11) (stV [(1, some (pt 0)), (3, some (tree 1 (List.length (strL x_2)) (encL (strL x_2)))), (4, some (vi 0))] q1 1)))) (T4 (True ∧ Post (vi 6))))) (T4 (∃ (x_2 : Event), eqL q2 [eventV x_2] ∧ Few1k x_2 ∧ T2 (True ∧ (True ∧ True) ∧ H (lpC Tryz.prog 11 11) (lpK Tryz.prog 11 11) (stV [(1, some (pt 0)), (3, some (tree 1 (List.length (strL x_2)) (encL (strL x_2)))), (4, some (vi 0))] q1 1))))))))))) (T4 (Post (vi 2))))))))))))) := by kernel_rfl
theorem l_rck1 (x : Event) (n : Nat) (A : Array Value) (i : Int) (H : HT) (Post : PV) : vcLP Tryz.prog callRC 11 [eventV x] [(11, [1, 3, 4]), (19, [1, 5, 6])] 11 (stV [(1, some (.pointer (some ⟨0, 0, none⟩))), (3, some (tree 1 n A)), (4, some (.int .i64 i))] [(0, some (.cells (eventC x) true))] 1) H Post = (T4 (pIf (decide (i < (↑n : Int))) (T2 ((0 ≤ i ∧ i < (↑n : Int)) ∧ cellAt A (Int.toNat i) 0 = vs (toS (cellAt A (Int.toNat i) 0)) ∧ T2 (pIf (decide ((↑(ByteArray.size (toS (cellAt A (Int.toNat i) 0))) : Int) > 64)) (T2 (Post (vi 4))) (T4 ((True ∧ True) ∧ H (lpC Tryz.prog 11 11) (lpK Tryz.prog 11 11) (stV [(1, some (pt 0)), (3, some (tree 1 n A)), (4, some (vi (IntKind.wrap IntKind.i64 (i + 1))))] [(0, some (AObj.cells (evK x.kind x) true))] 1)))))) (T4 (True ∧ pIf (decide ((↑x.order.edits.length : Int) > 32)) (T8 (Post (vi 4))) (T4 (T2 (pIf (decide ((↑x.nest.spots.length : Int) > 32)) (T4 (T2 (True ∧ Post (vi 4)))) (T4 (T2 (True ∧ pIf (decide ((↑x.saw.parts.length : Int) > 24)) (T4 (True ∧ Post (vi 4))) (T4 (T2 (True ∧ pIf (decide ((↑x.lift.hooks.length : Int) > 2)) (T2 (True ∧ Post (vi 4))) (T2 (∃ (x_1 : Event), eqL [Value.agg (evK x.kind x).toArray] [eventV x_1] ∧ Few1k x_1 ∧ T2 (True ∧ (True ∧ True) ∧ H (lpC Tryz.prog 11 19) (lpK Tryz.prog 11 19) (stV [(1, some (pt 0)), (5, some (tree 1 (List.length (numL x_1)) (encL (numL x_1)))), (6, some (vi 0))] [(0, some (AObj.cells (evK x.kind x) true))] 1))))))))))))))))) := by kernel_rfl
theorem l_rck2 (x : Event) (n : Nat) (A : Array Value) (i : Int) (H : HT) (Post : PV) : vcLP Tryz.prog callRC 11 [eventV x] [(11, [1, 3, 4]), (19, [1, 5, 6])] 19 (stV [(1, some (.pointer (some ⟨0, 0, none⟩))), (5, some (tree 1 n A)), (6, some (.int .i64 i))] [(0, some (.cells (eventC x) true))] 1) H Post = (T4 (pIf (decide (i < (↑n : Int))) (T2 ((0 ≤ i ∧ i < (↑n : Int)) ∧ cellAt A (Int.toNat i) 0 = vi (toI (cellAt A (Int.toNat i) 0)) ∧ True ∧ pIf (decide (toI (cellAt A (Int.toNat i) 0) < -1099511627776)) (T4 (Post (vi 9))) (T2 (True ∧ (0 ≤ i ∧ i < (↑n : Int)) ∧ cellAt A (Int.toNat i) 0 = vi (toI (cellAt A (Int.toNat i) 0)) ∧ True ∧ pIf (decide (toI (cellAt A (Int.toNat i) 0) > 1099511627776)) (T2 (True ∧ Post (vi 9))) (T4 (True ∧ (True ∧ True) ∧ H (lpC Tryz.prog 11 19) (lpK Tryz.prog 11 19) (stV [(1, some (pt 0)), (5, some (tree 1 n A)), (6, some (vi (IntKind.wrap IntKind.i64 (i + 1))))] [(0, some (AObj.cells (evK x.kind x) true))] 1))))))) (T2 (True ∧ pIf (decide (x.kind = 10)) (T4 (pIf (decide (x.n < 1)) (T4 (True ∧ Post (vi 9))) (T4 (pIf (decide (x.n > 5)) (T4 (Post (vi 9))) (T4 (Post (vi 0))))))) (T4 (Post (vi 0))))))) := by kernel_rfl
def refLong (x : Event) : Bool := (strL x).any big || (decide (32 < x.order.edits.length) || (decide (32 < x.nest.spots.length) || (decide (24 < x.saw.parts.length) || decide (2 < x.lift.hooks.length))))
def refFar (x : Event) : Bool := (numL x).any off || (decide (x.kind = 10) && (decide (x.n < 1) || decide (5 < x.n)))
def refE (x : Event) : Int :=
 if ¬ (1 ≤ x.kind ∧ x.kind ≤ 18) then 10
 else if x.at_ < 0 ∨ 1048576 < x.at_ then 15
 else if ¬ x = plainK x.kind x then 2
 else if ¬ namedOk x then 6
 else if refLong x = true then 4
 else if refFar x = true then 9
 else 0
def c_rcheck (args : List Value) (Post : Value → Prop) : Prop := ∃ x : Event, args = [eventV x] ∧ ShortEv x ∧ Few1k x ∧ x.item.size < 16777000 ∧ Post (.int .i64 (refE x))
theorem cell_intL {l : List Int} {i : Nat} (h : i < l.length) : cellAt (encL l) i 0 = .int .i64 l[i] := by
 have := cellAt_encL' h (j := 0)
 exact this
theorem ok_rcheck : EntOk Tryz.prog ⟨11, c_rcheck⟩ := by
 rintro args Post ⟨x, rfl, hs, hf, hz, h⟩
 have hE : ∀ v, refE x = v → Post (.int .i64 v) := fun v e => by subst e; exact h
 clear h
 have r2 : (1 ≤ x.kind ∧ x.kind ≤ 18) → ¬ (x.at_ < 0 ∨ 1048576 < x.at_) → x = plainK x.kind x → namedOk x → refLong x = false → OkP 11 [eventV x] 19 Post (stV [(1, some (.pointer (some ⟨0, 0, none⟩))), (5, some (tree 1 (numL x).length (encL (numL x)))), (6, some (.int .i64 (0 : Nat)))] [(0, some (.cells (eventC x) true))] 1) := fun hk ha hp hn hl => by
  have yes : refFar x = true → Post (.int .i64 9) := fun e => hE _ (by unfold refE; rw [if_neg (by simpa using hk), if_neg ha, if_neg (by simpa using hp), if_neg (by simpa using hn), if_neg (by simp [hl]), if_pos e])
  have no : refFar x = false → Post (.int .i64 0) := fun e => hE _ (by unfold refE; rw [if_neg (by simpa using hk), if_neg ha, if_neg (by simpa using hp), if_neg (by simpa using hn), if_neg (by simp [hl]), if_neg (by simp [e])])
  have nl : (numL x).length < 2 ^ 62 := by
   have f1 := hf.spots
   have f3 := hf.hooks
   unfold numL numL0
   simp only [List.length_append, List.length_flatMap, List.length_cons, List.length_nil, List.map_const', List.sum_replicate_nat]
   omega
  refine down (n := (numL x).length) (p := fun k => ((numL x).take k).any off = false → OkP 11 [eventV x] 19 Post (stV [(1, some (.pointer (some ⟨0, 0, none⟩))), (5, some (tree 1 (numL x).length (encL (numL x)))), (6, some (.int .i64 k))] [(0, some (.cells (eventC x) true))] 1)) (fun hall => ?_) (fun k hk1 ih hall => ?_) rfl
  ·rw [List.take_of_length_le (Nat.le_refl _)] at hall
   refine ok_P (vc := callRC) callRC_ok mixed _ (l_rck2 x _ _ _ _ _) ?_
   simp only [true_and, and_true]
   refine pIfD (fun hh => absurd hh (by omega)) (fun _ => ?_)
   exact pIfD (fun g1 => pIfD (fun g2 => yes (by simp [refFar, g1, g2])) (fun g2 => pIfD (fun g3 => yes (by simp [refFar, g1, g3])) (fun g3 => no (by unfold refFar; rw [hall]; simp [g1]; omega)))) (fun g1 => no (by unfold refFar; rw [hall]; simp [g1]))
  ·refine ok_P (vc := callRC) callRC_ok mixed _ (l_rck2 x _ _ _ _ _) ?_
   have ek : ((k : Nat) : Int).toNat = k := by omega
   simp only [true_and, and_true, ek, cell_intL hk1, toI, wrapSucc (show k < 2 ^ 62 by omega)]
   have bad : off (numL x)[k] = true → Post (.int .i64 9) := fun e => yes (by
    unfold refFar
    rw [List.any_eq_true.2 ⟨_, List.getElem_mem hk1, e⟩]; rfl)
   refine pIfD (fun _ => ⟨⟨by omega, by omega⟩, ?_⟩) (fun hh => absurd hh (by omega))
   refine pIfD (fun h1 => bad (by simp [off, h1])) (fun h1 => ⟨⟨by omega, by omega⟩, pIfD (fun h2 => bad (by simp [off, h2])) (fun h2 => ?_)⟩)
   exact ih (by rw [any_take hk1, hall]; simp [off, h1, h2])
 have r1 : (1 ≤ x.kind ∧ x.kind ≤ 18) → ¬ (x.at_ < 0 ∨ 1048576 < x.at_) → x = plainK x.kind x → namedOk x → OkP 11 [eventV x] 11 Post (stV [(1, some (.pointer (some ⟨0, 0, none⟩))), (3, some (tree 1 (strL x).length (encL (strL x)))), (4, some (.int .i64 (0 : Nat)))] [(0, some (.cells (eventC x) true))] 1) := fun hk ha hp hn => by
  have yes : refLong x = true → Post (.int .i64 4) := fun e => hE _ (by unfold refE; rw [if_neg (by simpa using hk), if_neg ha, if_neg (by simpa using hp), if_neg (by simpa using hn), if_pos e])
  have nl : (strL x).length < 2 ^ 62 := by
   have f1 := hf.spots
   have f2 := hf.saw
   have f3 := hf.hooks
   unfold strL strL0
   simp only [List.length_append, List.length_map, List.length_cons, List.length_nil]
   omega
  refine down (n := (strL x).length) (p := fun k => ((strL x).take k).any big = false → OkP 11 [eventV x] 11 Post (stV [(1, some (.pointer (some ⟨0, 0, none⟩))), (3, some (tree 1 (strL x).length (encL (strL x)))), (4, some (.int .i64 k))] [(0, some (.cells (eventC x) true))] 1)) (fun hall => ?_) (fun k hk1 ih hall => ?_) rfl
  ·rw [List.take_of_length_le (Nat.le_refl _)] at hall
   refine ok_P (vc := callRC) callRC_ok mixed _ (l_rck1 x _ _ _ _ _) ?_
   simp only [true_and, and_true]
   refine pIfD (fun hh => absurd hh (by omega)) (fun _ => ?_)
   refine pIfD (fun g1 => yes (by simp [refLong]; omega)) (fun g1 => pIfD (fun g2 => yes (by simp [refLong]; omega)) (fun g2 => pIfD (fun g3 => yes (by simp [refLong]; omega)) (fun g3 => pIfD (fun g4 => yes (by simp [refLong]; omega)) (fun g4 => ?_))))
   exact ⟨x, rfl, hf, r2 hk ha hp hn (by unfold refLong; rw [hall]; simp; omega)⟩
  ·refine ok_P (vc := callRC) callRC_ok mixed _ (l_rck1 x _ _ _ _ _) ?_
   have ek : ((k : Nat) : Int).toNat = k := by omega
   simp only [true_and, and_true, ek, cell_str hk1, toS, wrapSucc (show k < 2 ^ 62 by omega)]
   have bad : big (strL x)[k] = true → Post (.int .i64 4) := fun e => yes (by
    unfold refLong
    rw [List.any_eq_true.2 ⟨_, List.getElem_mem hk1, e⟩]; rfl)
   refine pIfD (fun _ => ⟨⟨by omega, by omega⟩, ?_⟩) (fun hh => absurd hh (by omega))
   exact pIfD (fun h1 => bad (by simp [big]; omega)) (fun h1 => ih (by rw [any_take hk1, hall]; simp [big]; omega))
 refine pure_P (vc := callRC) callRC_ok mixed (by kernel_rfl) (by kernel_rfl) _ (e_rcheck x _ _) ?_
 simp only [true_and, and_true]
 refine pIfD (fun h1 => hE _ (by unfold refE; rw [if_pos (by omega)])) (fun h1 => pIfD (fun h2 => hE _ (by unfold refE; rw [if_pos (by omega)])) (fun h2 => ?_))
 have hk : 1 ≤ x.kind ∧ x.kind ≤ 18 := by omega
 refine pIfD (fun h3 => hE _ (by unfold refE; rw [if_neg (by simpa using hk), if_pos (.inl h3)])) (fun h3 => pIfD (fun h4 => hE _ (by unfold refE; rw [if_neg (by simpa using hk), if_pos (.inr h4)])) (fun h4 => ?_))
 have ha : ¬ (x.at_ < 0 ∨ 1048576 < x.at_) := by omega
 refine ⟨x, rfl, hk.1, hk.2, x, plainK x.kind x, rfl, hs, pIfD (fun hp => ?_) (fun hp => hE _ (by unfold refE; rw [if_neg (by simpa using hk), if_neg ha, if_pos hp]))⟩
 have hno : ¬ namedOk x → Post (.int .i64 6) := fun hn => hE _ (by unfold refE; rw [if_neg (by simpa using hk), if_neg ha, if_neg (by simpa using hp), if_pos hn])
 have hyes := r1 hk ha hp
 unfold namedOk at hno hyes
 repeat' (first
  | refine pIfD (fun hh => ?_) (fun hh => ?_)
  | refine ⟨x.item, rfl, hz, ?_⟩
  | exact hno fun f => absurd (f.1 (by assumption)) (by assumption)
  | exact hno fun f => absurd (f.2.1 (by assumption)) (by assumption)
  | exact hno fun f => absurd (f.2.2 (by assumption)) (by assumption)
  | exact ⟨x, rfl, hf, hyes ⟨fun hi => by first | assumption | exact absurd hi (by assumption), fun hi => by first | assumption | exact absurd hi (by assumption), fun hi => by first | assumption | exact absurd hi (by assumption)⟩⟩)
theorem ok_wI' : EntOk Tryz.prog ⟨57, w_I⟩ := by
 intro args Post h
 dsimp only [w_I] at h
 split at h
 case h_2 => exact h.elim
 exact ok_rInt _ _ ⟨_, rfl, h⟩
theorem ok_wT' : EntOk Tryz.prog ⟨58, w_T⟩ := by
 intro args Post h
 dsimp only [w_T] at h
 split at h
 case h_2 => exact h.elim
 exact ok_rText _ _ ⟨_, rfl, h⟩
theorem ok_wL' : EntOk Tryz.prog ⟨76, w_L⟩ := by
 intro args Post h
 dsimp only [w_L] at h
 split at h
 case h_2 => exact h.elim
 rename_i n
 obtain ⟨h1, h2⟩ := h
 obtain ⟨m, rfl⟩ := Int.eq_ofNat_of_zero_le h1.1
 exact ok_rList _ _ ⟨m, rfl, by omega, h2⟩
def tabRf : List Ent := [⟨57, w_I⟩, ⟨58, w_T⟩, ⟨76, w_L⟩, ⟨59, c_Order⟩]
theorem tabRf_ok : ∀ e ∈ tabRf, EntOk Tryz.prog e := by
 intro e he
 simp only [tabRf, List.mem_cons, List.not_mem_nil, or_false] at he
 rcases he with rfl | rfl | rfl | rfl
 ·exact ok_wI'
 ·exact ok_wT'
 ·exact ok_wL'
 ·exact ok_rchEnc
abbrev pt0 : Value := .pointer (some ⟨0, 0, none⟩)
def callRf : PCall := inlP Tryz.prog [34, 60] (ofV (tabCall tabRf noCall)) 3
theorem callRf_ok : PCallOk Tryz.prog callRf := inlP_ok mixed (ofV_ok (tabCall_ok tabRf_ok noCall_ok)) 3
theorem e_ls (x : Event) (H : HT) (Post : PX) : vcX Tryz.prog callRf 61 [(6, [1, 3, 4]), (13, [1, 3, 6]), (19, [1, 3, 7])] [] [eventV x] H Post = (let q3 := [(0, some (AObj.cells (evK x.kind x) true))]; let q2 := tree 1 x.saw.parts.length (encL x.saw.parts) = tree 1 x.saw.parts.length (encL x.saw.parts) ∧ True; let q1 := tree 5 x.nest.spots.length (encL x.nest.spots) = tree 5 x.nest.spots.length (encL x.nest.spots) ∧ True; T4 (T2 (pIf (decide (x.kind = 5)) (T8 (T2 (True ∧ x.nest.sheet.size ≤ 16000000 ∧ (q1 ∧ (vi x.nest.gap = vi x.nest.gap ∧ True) ∧ True) ∧ (-9223372036854775808 ≤ x.nest.gap ∧ x.nest.gap < 9223372036854775808) ∧ (q1 ∧ True) ∧ ByteArray.size (bText x.nest.sheet) + ByteArray.size (bInt x.nest.gap) ≤ 9223372036854775807 ∧ (0 ≤ (↑x.nest.spots.length : Int) ∧ (↑x.nest.spots.length : Int) < 9223372036854775808) ∧ True ∧ ByteArray.size (bText x.nest.sheet ++ bInt x.nest.gap) + ByteArray.size (bList (Int.toNat (↑x.nest.spots.length : Int))) ≤ 9223372036854775807 ∧ T2 (True ∧ (True ∧ True) ∧ H (lpC Tryz.prog 61 6) (lpK Tryz.prog 61 6) (stV [(1, some (pt 0)), (3, some (vs (bText x.nest.sheet ++ bInt x.nest.gap ++ bList (Int.toNat (↑x.nest.spots.length : Int))))), (4, some (vi 0))] q3 1))))) (T2 (pIf (decide (x.kind = 6)) (T8 (T2 (True ∧ x.saw.bar.size ≤ 16000000 ∧ (q2 ∧ (vi x.saw.kerf = vi x.saw.kerf ∧ True) ∧ True) ∧ (-9223372036854775808 ≤ x.saw.kerf ∧ x.saw.kerf < 9223372036854775808) ∧ (q2 ∧ True) ∧ ByteArray.size (bText x.saw.bar) + ByteArray.size (bInt x.saw.kerf) ≤ 9223372036854775807 ∧ (0 ≤ (↑x.saw.parts.length : Int) ∧ (↑x.saw.parts.length : Int) < 9223372036854775808) ∧ True ∧ ByteArray.size (bText x.saw.bar ++ bInt x.saw.kerf) + ByteArray.size (bList (Int.toNat (↑x.saw.parts.length : Int))) ≤ 9223372036854775807 ∧ T2 (True ∧ (True ∧ True) ∧ H (lpC Tryz.prog 61 13) (lpK Tryz.prog 61 13) (stV [(1, some (pt 0)), (3, some (vs (bText x.saw.bar ++ bInt x.saw.kerf ++ bList (Int.toNat (↑x.saw.parts.length : Int))))), (6, some (vi 0))] q3 1))))) (T2 (pIf (decide (x.kind = 14)) (T8 (x.lift.block.size ≤ 16000000 ∧ ((tree 4 x.lift.hooks.length (encL x.lift.hooks) = tree 4 x.lift.hooks.length (encL x.lift.hooks) ∧ True) ∧ True) ∧ (0 ≤ (↑x.lift.hooks.length : Int) ∧ (↑x.lift.hooks.length : Int) < 9223372036854775808) ∧ True ∧ ByteArray.size (bText x.lift.block) + ByteArray.size (bList (Int.toNat (↑x.lift.hooks.length : Int))) ≤ 9223372036854775807 ∧ T2 (True ∧ (True ∧ True) ∧ H (lpC Tryz.prog 61 19) (lpK Tryz.prog 61 19) (stV [(1, some (pt 0)), (3, some (vs (bText x.lift.block ++ bList (Int.toNat (↑x.lift.hooks.length : Int))))), (7, some (vi 0))] q3 1)))) (T2 (True ∧ (True ∧ True) ∧ true = true ∧ Post (Out.ret (vz)) []))))))))) := by kernel_rfl
theorem l_ls5 (x : Event) (s : ByteArray) (i : Int) (H : HT) (Post : PX) : vcLX Tryz.prog callRf 61 [eventV x] [(6, [1, 3, 4]), (13, [1, 3, 6]), (19, [1, 3, 7])] 0 6 (stV [(1, some pt0), (3, some (.string s)), (4, some (.int .i64 i))] [(0, some (.cells (eventC x) true))] 1) H Post = (let q8 := (toI (vi 0) ≤ IntKind.wrap IntKind.i64 (0 + 1) ∧ toI (vi (IntKind.wrap IntKind.i64 (0 + 1))) < (↑3 : Int)); let q7 := (toI (vi 0) ≤ IntKind.wrap IntKind.i64 (IntKind.wrap IntKind.i64 (0 + 1) + 1) ∧ toI (vi (IntKind.wrap IntKind.i64 (IntKind.wrap IntKind.i64 (0 + 1) + 1))) < (↑3 : Int)); let q6 := toB (cellAt (encL x.nest.spots) (Int.toNat i) 4); let q5 := cellAt (encL x.nest.spots) (Int.toNat i) 3; let q4 := toS (cellAt (encL x.nest.spots) (Int.toNat i) 0); let q3 := cellAt (encL x.nest.spots) (Int.toNat i) 2; let q2 := cellAt (encL x.nest.spots) (Int.toNat i) 1; let q1 := ByteArray.mk #[] ++ bInt (toI q2) ++ bInt (toI q3) ++ bInt (toI q5); T4 (T2 (pIf (decide (i < (↑x.nest.spots.length : Int))) (T4 ((0 ≤ i ∧ i < (↑x.nest.spots.length : Int)) ∧ (cellAt (encL x.nest.spots) (Int.toNat i) 0 = vs q4 ∧ cellAt (encL x.nest.spots) (Int.toNat i) 1 = vi (toI q2) ∧ cellAt (encL x.nest.spots) (Int.toNat i) 2 = vi (toI q3) ∧ cellAt (encL x.nest.spots) (Int.toNat i) 3 = vi (toI q5) ∧ cellAt (encL x.nest.spots) (Int.toNat i) 4 = vb q6 ∧ True) ∧ True ∧ 5 ≤ 5 ∧ T8 (T4 (T2 (pIf q6 (ByteArray.size q4 ≤ 16000000 ∧ ((vb q6 = vb true ∧ True) ∧ (vi (toI q5) = vi (toI q5) ∧ True) ∧ (vi (toI q3) = vi (toI q3) ∧ True) ∧ (vi (toI q2) = vi (toI q2) ∧ True) ∧ True) ∧ s.size + ByteArray.size (bText q4) ≤ 9223372036854775807 ∧ T8 (T2 ((toI (vi 0) ≤ 0 ∧ toI (vi 0) < (↑3 : Int)) ∧ True ∧ (-9223372036854775808 ≤ toI q2 ∧ toI q2 < 9223372036854775808) ∧ 0 + ByteArray.size (bInt (toI q2)) ≤ 9223372036854775807 ∧ T8 (T2 (True ∧ q8 ∧ True ∧ (-9223372036854775808 ≤ toI q3 ∧ toI q3 < 9223372036854775808) ∧ ByteArray.size (ByteArray.mk #[] ++ bInt (toI q2)) + ByteArray.size (bInt (toI q3)) ≤ 9223372036854775807 ∧ T8 (T2 (True ∧ q7 ∧ True ∧ (-9223372036854775808 ≤ toI q5 ∧ toI q5 < 9223372036854775808) ∧ ByteArray.size (ByteArray.mk #[] ++ bInt (toI q2) ++ bInt (toI q3)) + ByteArray.size (bInt (toI q5)) ≤ 9223372036854775807 ∧ T8 (T2 (((vb q6 = vb true ∧ True) ∧ True) ∧ ByteArray.size (s ++ bText q4) + ByteArray.size q1 ≤ 9223372036854775807 ∧ T4 (ByteArray.size (s ++ bText q4 ++ q1) + 1 ≤ 9223372036854775807 ∧ T4 (True ∧ (True ∧ True) ∧ H (lpC Tryz.prog 61 6) (lpK Tryz.prog 61 6) (stV [(1, some (pt 0)), (3, some (vs (s ++ bText q4 ++ q1 ++ ByteArray.mk #[245]))), (4, some (vi (IntKind.wrap IntKind.i64 (i + 1))))] [(0, some (AObj.cells (evK x.kind x) true))] 1)))))))))))) (ByteArray.size q4 ≤ 16000000 ∧ ((vb q6 = vb false ∧ True) ∧ (vi (toI q5) = vi (toI q5) ∧ True) ∧ (vi (toI q3) = vi (toI q3) ∧ True) ∧ (vi (toI q2) = vi (toI q2) ∧ True) ∧ True) ∧ s.size + ByteArray.size (bText q4) ≤ 9223372036854775807 ∧ T8 (T2 ((toI (vi 0) ≤ 0 ∧ toI (vi 0) < (↑3 : Int)) ∧ True ∧ (-9223372036854775808 ≤ toI q2 ∧ toI q2 < 9223372036854775808) ∧ 0 + ByteArray.size (bInt (toI q2)) ≤ 9223372036854775807 ∧ T8 (T2 (True ∧ q8 ∧ True ∧ (-9223372036854775808 ≤ toI q3 ∧ toI q3 < 9223372036854775808) ∧ ByteArray.size (ByteArray.mk #[] ++ bInt (toI q2)) + ByteArray.size (bInt (toI q3)) ≤ 9223372036854775807 ∧ T8 (T2 (True ∧ q7 ∧ True ∧ (-9223372036854775808 ≤ toI q5 ∧ toI q5 < 9223372036854775808) ∧ ByteArray.size (ByteArray.mk #[] ++ bInt (toI q2) ++ bInt (toI q3)) + ByteArray.size (bInt (toI q5)) ≤ 9223372036854775807 ∧ T8 (T2 (((vb q6 = vb false ∧ True) ∧ True) ∧ ByteArray.size (s ++ bText q4) + ByteArray.size q1 ≤ 9223372036854775807 ∧ T4 (ByteArray.size (s ++ bText q4 ++ q1) + 1 ≤ 9223372036854775807 ∧ T4 (True ∧ (True ∧ True) ∧ H (lpC Tryz.prog 61 6) (lpK Tryz.prog 61 6) (stV [(1, some (pt 0)), (3, some (vs (s ++ bText q4 ++ q1 ++ ByteArray.mk #[244]))), (4, some (vi (IntKind.wrap IntKind.i64 (i + 1))))] [(0, some (AObj.cells (evK x.kind x) true))] 1))))))))))))))))) (T2 ((True ∧ True) ∧ true = true ∧ Post (Out.ret (vs s)) []))))) := by kernel_rfl
theorem l_ls6 (x : Event) (s : ByteArray) (i : Int) (H : HT) (Post : PX) : vcLX Tryz.prog callRf 61 [eventV x] [(6, [1, 3, 4]), (13, [1, 3, 6]), (19, [1, 3, 7])] 0 13 (stV [(1, some pt0), (3, some (.string s)), (6, some (.int .i64 i))] [(0, some (.cells (eventC x) true))] 1) H Post = (let q1 := toS (cellAt (encL x.saw.parts) (Int.toNat i) 0); T4 (T2 (pIf (decide (i < (↑x.saw.parts.length : Int))) (T4 (True ∧ (0 ≤ i ∧ i < (↑x.saw.parts.length : Int)) ∧ cellAt (encL x.saw.parts) (Int.toNat i) 0 = vs q1 ∧ ByteArray.size q1 ≤ 16000000 ∧ s.size + ByteArray.size (bText q1) ≤ 9223372036854775807 ∧ T4 (True ∧ (True ∧ True) ∧ H (lpC Tryz.prog 61 13) (lpK Tryz.prog 61 13) (stV [(1, some (pt 0)), (3, some (vs (s ++ bText q1))), (6, some (vi (IntKind.wrap IntKind.i64 (i + 1))))] [(0, some (AObj.cells (evK x.kind x) true))] 1)))) (T2 ((True ∧ True) ∧ true = true ∧ Post (Out.ret (vs s)) []))))) := by kernel_rfl
theorem l_ls14 (x : Event) (s : ByteArray) (i : Int) (H : HT) (Post : PX) : vcLX Tryz.prog callRf 61 [eventV x] [(6, [1, 3, 4]), (13, [1, 3, 6]), (19, [1, 3, 7])] 0 19 (stV [(1, some pt0), (3, some (.string s)), (7, some (.int .i64 i))] [(0, some (.cells (eventC x) true))] 1) H Post = (let q4 := toS (cellAt (encL x.lift.hooks) (Int.toNat i) 0); let q3 := cellAt (encL x.lift.hooks) (Int.toNat i) 3; let q2 := cellAt (encL x.lift.hooks) (Int.toNat i) 2; let q1 := cellAt (encL x.lift.hooks) (Int.toNat i) 1; T4 (T2 (pIf (decide (i < (↑x.lift.hooks.length : Int))) (T4 ((0 ≤ i ∧ i < (↑x.lift.hooks.length : Int)) ∧ (cellAt (encL x.lift.hooks) (Int.toNat i) 0 = vs q4 ∧ cellAt (encL x.lift.hooks) (Int.toNat i) 1 = vi (toI q1) ∧ cellAt (encL x.lift.hooks) (Int.toNat i) 2 = vi (toI q2) ∧ cellAt (encL x.lift.hooks) (Int.toNat i) 3 = vi (toI q3) ∧ True) ∧ True ∧ 4 ≤ 4 ∧ T8 (T4 (ByteArray.size q4 ≤ 16000000 ∧ ((vi (toI q3) = vi (toI q3) ∧ True) ∧ (vi (toI q2) = vi (toI q2) ∧ True) ∧ (vi (toI q1) = vi (toI q1) ∧ True) ∧ True) ∧ s.size + ByteArray.size (bText q4) ≤ 9223372036854775807 ∧ T8 (T2 ((toI (vi 0) ≤ 0 ∧ toI (vi 0) < (↑3 : Int)) ∧ True ∧ (-9223372036854775808 ≤ toI q1 ∧ toI q1 < 9223372036854775808) ∧ 0 + ByteArray.size (bInt (toI q1)) ≤ 9223372036854775807 ∧ T8 (T2 (True ∧ (toI (vi 0) ≤ IntKind.wrap IntKind.i64 (0 + 1) ∧ toI (vi (IntKind.wrap IntKind.i64 (0 + 1))) < (↑3 : Int)) ∧ True ∧ (-9223372036854775808 ≤ toI q2 ∧ toI q2 < 9223372036854775808) ∧ ByteArray.size (ByteArray.mk #[] ++ bInt (toI q1)) + ByteArray.size (bInt (toI q2)) ≤ 9223372036854775807 ∧ T8 (T2 (True ∧ (toI (vi 0) ≤ IntKind.wrap IntKind.i64 (IntKind.wrap IntKind.i64 (0 + 1) + 1) ∧ toI (vi (IntKind.wrap IntKind.i64 (IntKind.wrap IntKind.i64 (0 + 1) + 1))) < (↑3 : Int)) ∧ True ∧ (-9223372036854775808 ≤ toI q3 ∧ toI q3 < 9223372036854775808) ∧ ByteArray.size (ByteArray.mk #[] ++ bInt (toI q1) ++ bInt (toI q2)) + ByteArray.size (bInt (toI q3)) ≤ 9223372036854775807 ∧ T8 (T2 (True ∧ ByteArray.size (s ++ bText q4) + ByteArray.size (ByteArray.mk #[] ++ bInt (toI q1) ++ bInt (toI q2) ++ bInt (toI q3)) ≤ 9223372036854775807 ∧ T4 (True ∧ (True ∧ True) ∧ H (lpC Tryz.prog 61 19) (lpK Tryz.prog 61 19) (stV [(1, some (pt 0)), (3, some (vs (s ++ bText q4 ++ (ByteArray.mk #[] ++ bInt (toI q1) ++ bInt (toI q2) ++ bInt (toI q3))))), (7, some (vi (IntKind.wrap IntKind.i64 (i + 1))))] [(0, some (AObj.cells (evK x.kind x) true))] 1)))))))))))))) (T2 ((True ∧ True) ∧ true = true ∧ Post (Out.ret (vs s)) []))))) := by kernel_rfl
def listsB (x : Event) : ByteArray := if x.kind = 5 ∨ x.kind = 6 ∨ x.kind = 14 then bVs (vaN x x.kind.toNat) ++ bLs x x.kind.toNat else ⟨#[]⟩
structure FitEv (x : Event) : Prop where
 fit : fits (shN x.kind.toNat) (vaN x x.kind.toNat)
 lists : fitsL x x.kind.toNat
def c_lists (args : List Value) (Post : Value → Prop) : Prop := ∃ x : Event, args = [eventV x] ∧ FitEv x ∧ Post (.string (listsB x))
def c_fields (args : List Value) (Post : Value → Prop) : Prop := ∃ x : Event, args = [eventV x] ∧ 1 ≤ x.kind ∧ x.kind ≤ 18 ∧ FitEv x ∧ InOrder x.order ∧ FewO x.order ∧ (bOrder x.order).size ≤ 16000000 ∧ Post (.string (bBody x x.kind.toNat))
def callRg : PCall := inlP Tryz.prog [34, 60] (ofV (tabCall (⟨61, c_lists⟩ :: tabRf) noCall)) 3
def callRh : PCall := inlP Tryz.prog [34] (ofV (tabCall (⟨11, c_rcheck⟩ :: ⟨35, c_fields⟩ :: tabRf) noCall)) 3
theorem e_fs (x : Event) (H : HT) (Post : PX) : vcX Tryz.prog callRg 35 [] [] [eventV x] H Post = (let q11 := vs x.sheet.heat = vs x.sheet.heat ∧ True; let q10 := ByteArray.mk #[] ++ bInt x.permit.kind ++ bInt x.permit.time.a ++ bInt x.permit.time.b; let q3 := IntKind.wrap IntKind.i64 (0 + 1) + 1; let q9 := IntKind.wrap IntKind.i64 q3 + 1; let q8 := (toI (vi 0) ≤ IntKind.wrap IntKind.i64 q3 ∧ toI (vi (IntKind.wrap IntKind.i64 q3)) < (↑3 : Int)); let q7 := vs x.bar.heat = vs x.bar.heat ∧ True; let q6 := (toI (vi 0) ≤ IntKind.wrap IntKind.i64 (0 + 1) ∧ toI (vi (IntKind.wrap IntKind.i64 (0 + 1))) < (↑3 : Int)); let q5 := ByteArray.mk #[] ++ bInt x.weig.mass ++ bInt x.weig.centre.x ++ bInt x.weig.centre.y ++ bInt x.weig.centre.z ++ bInt x.weig.sigma; let q4 := ByteArray.mk #[] ++ bInt x.sheet.thick ++ bInt x.sheet.long ++ bInt x.sheet.width; let q2 := T2 (True ∧ x.item.size ≤ 16000000 ∧ True ∧ (True ∧ True) ∧ true = true ∧ Post (Out.ret (vs (bText x.item))) []); let q1 := T4 (T2 (True ∧ x.item.size ≤ 16000000 ∧ ((vs x.by_ = vs x.by_ ∧ True) ∧ (vs x.of_ = vs x.of_ ∧ True) ∧ True) ∧ x.of_.size ≤ 16000000 ∧ ((vs x.by_ = vs x.by_ ∧ True) ∧ True) ∧ ByteArray.size (bText x.item) + ByteArray.size (bText x.of_) ≤ 9223372036854775807 ∧ x.by_.size ≤ 16000000 ∧ True ∧ ByteArray.size (bText x.item ++ bText x.of_) + ByteArray.size (bText x.by_) ≤ 9223372036854775807 ∧ True ∧ (True ∧ True) ∧ true = true ∧ Post (Out.ret (vs (bText x.item ++ bText x.of_ ++ bText x.by_))) [])); T4 (True ∧ pIf (decide (x.kind = 1)) (T2 (True ∧ ∃ (o : Order2), eqL [Value.agg #[vs x.order.id, tree 38 x.order.edits.length (encL x.order.edits)]] [order2V o] ∧ InOrder o ∧ FewO o ∧ ByteArray.size (bOrder o) ≤ 16000000 ∧ True ∧ (True ∧ True) ∧ true = true ∧ Post (Out.ret (vs (bText (bOrder o)))) [])) (T2 (pIf (decide (x.kind = 2)) (T16 (T4 (x.sheet.id.size ≤ 16000000 ∧ (q11 ∧ (vi x.sheet.width = vi x.sheet.width ∧ True) ∧ (vi x.sheet.long = vi x.sheet.long ∧ True) ∧ (vi x.sheet.thick = vi x.sheet.thick ∧ True) ∧ (vs x.sheet.grade = vs x.sheet.grade ∧ True) ∧ True) ∧ x.sheet.grade.size ≤ 16000000 ∧ (q11 ∧ (vi x.sheet.width = vi x.sheet.width ∧ True) ∧ (vi x.sheet.long = vi x.sheet.long ∧ True) ∧ (vi x.sheet.thick = vi x.sheet.thick ∧ True) ∧ True) ∧ ByteArray.size (bText x.sheet.id) + ByteArray.size (bText x.sheet.grade) ≤ 9223372036854775807 ∧ T8 (T2 ((toI (vi 0) ≤ 0 ∧ toI (vi 0) < (↑3 : Int)) ∧ True ∧ (-9223372036854775808 ≤ x.sheet.thick ∧ x.sheet.thick < 9223372036854775808) ∧ 0 + ByteArray.size (bInt x.sheet.thick) ≤ 9223372036854775807 ∧ T8 (T2 (True ∧ q6 ∧ True ∧ (-9223372036854775808 ≤ x.sheet.long ∧ x.sheet.long < 9223372036854775808) ∧ ByteArray.size (ByteArray.mk #[] ++ bInt x.sheet.thick) + ByteArray.size (bInt x.sheet.long) ≤ 9223372036854775807 ∧ T8 (T2 (True ∧ q8 ∧ True ∧ (-9223372036854775808 ≤ x.sheet.width ∧ x.sheet.width < 9223372036854775808) ∧ ByteArray.size (ByteArray.mk #[] ++ bInt x.sheet.thick ++ bInt x.sheet.long) + ByteArray.size (bInt x.sheet.width) ≤ 9223372036854775807 ∧ T8 (T2 ((q11 ∧ True) ∧ ByteArray.size (bText x.sheet.id ++ bText x.sheet.grade) + ByteArray.size q4 ≤ 9223372036854775807 ∧ x.sheet.heat.size ≤ 16000000 ∧ True ∧ ByteArray.size (bText x.sheet.id ++ bText x.sheet.grade ++ q4) + ByteArray.size (bText x.sheet.heat) ≤ 9223372036854775807 ∧ True ∧ (True ∧ True) ∧ true = true ∧ Post (Out.ret (vs (bText x.sheet.id ++ bText x.sheet.grade ++ q4 ++ bText x.sheet.heat))) []))))))))))) (T2 (pIf (decide (x.kind = 3)) (T16 (x.bar.id.size ≤ 16000000 ∧ (q7 ∧ (vi x.bar.long = vi x.bar.long ∧ True) ∧ (vs x.bar.grade = vs x.bar.grade ∧ True) ∧ (vs x.bar.sect = vs x.bar.sect ∧ True) ∧ True) ∧ x.bar.sect.size ≤ 16000000 ∧ (q7 ∧ (vi x.bar.long = vi x.bar.long ∧ True) ∧ (vs x.bar.grade = vs x.bar.grade ∧ True) ∧ True) ∧ ByteArray.size (bText x.bar.id) + ByteArray.size (bText x.bar.sect) ≤ 9223372036854775807 ∧ x.bar.grade.size ≤ 16000000 ∧ (q7 ∧ (vi x.bar.long = vi x.bar.long ∧ True) ∧ True) ∧ ByteArray.size (bText x.bar.id ++ bText x.bar.sect) + ByteArray.size (bText x.bar.grade) ≤ 9223372036854775807 ∧ (-9223372036854775808 ≤ x.bar.long ∧ x.bar.long < 9223372036854775808) ∧ (q7 ∧ True) ∧ ByteArray.size (bText x.bar.id ++ bText x.bar.sect ++ bText x.bar.grade) + ByteArray.size (bInt x.bar.long) ≤ 9223372036854775807 ∧ x.bar.heat.size ≤ 16000000 ∧ True ∧ ByteArray.size (bText x.bar.id ++ bText x.bar.sect ++ bText x.bar.grade ++ bInt x.bar.long) + ByteArray.size (bText x.bar.heat) ≤ 9223372036854775807 ∧ True ∧ (True ∧ True) ∧ true = true ∧ Post (Out.ret (vs (bText x.bar.id ++ bText x.bar.sect ++ bText x.bar.grade ++ bInt x.bar.long ++ bText x.bar.heat))) [])) (T2 (pIf (decide (x.kind = 4)) (T4 (True ∧ x.item.size ≤ 16000000 ∧ ((vs x.by_ = vs x.by_ ∧ True) ∧ True) ∧ x.by_.size ≤ 16000000 ∧ True ∧ ByteArray.size (bText x.item) + ByteArray.size (bText x.by_) ≤ 9223372036854775807 ∧ True ∧ (True ∧ True) ∧ true = true ∧ Post (Out.ret (vs (bText x.item ++ bText x.by_))) [])) (T2 (pIf (decide (x.kind = 7)) q2 (T2 (pIf (decide (x.kind = 8)) q2 (T2 (pIf (decide (x.kind = 12)) q2 (T2 (pIf (decide (x.kind = 16)) q2 (T2 (pIf (decide (x.kind = 9)) q1 (T2 (pIf (decide (x.kind = 11)) q1 (T2 (pIf (decide (x.kind = 10)) (T4 (T2 (True ∧ pIf x.pass (x.item.size ≤ 16000000 ∧ ((vb x.pass = vb true ∧ True) ∧ (vi x.n = vi x.n ∧ True) ∧ True) ∧ (-9223372036854775808 ≤ x.n ∧ x.n < 9223372036854775808) ∧ ((vb x.pass = vb true ∧ True) ∧ True) ∧ ByteArray.size (bText x.item) + ByteArray.size (bInt x.n) ≤ 9223372036854775807 ∧ T4 (ByteArray.size (bText x.item ++ bInt x.n) + 1 ≤ 9223372036854775807 ∧ True ∧ (True ∧ True) ∧ true = true ∧ Post (Out.ret (vs (bText x.item ++ bInt x.n ++ ByteArray.mk #[245]))) [])) (x.item.size ≤ 16000000 ∧ ((vb x.pass = vb false ∧ True) ∧ (vi x.n = vi x.n ∧ True) ∧ True) ∧ (-9223372036854775808 ≤ x.n ∧ x.n < 9223372036854775808) ∧ ((vb x.pass = vb false ∧ True) ∧ True) ∧ ByteArray.size (bText x.item) + ByteArray.size (bInt x.n) ≤ 9223372036854775807 ∧ T4 (ByteArray.size (bText x.item ++ bInt x.n) + 1 ≤ 9223372036854775807 ∧ True ∧ (True ∧ True) ∧ true = true ∧ Post (Out.ret (vs (bText x.item ++ bInt x.n ++ ByteArray.mk #[244]))) []))))) (T2 (pIf (decide (x.kind = 13)) (T16 (T4 (T2 (True ∧ x.weig.block.size ≤ 16000000 ∧ ((vi x.weig.sigma = vi x.weig.sigma ∧ True) ∧ (vi x.weig.centre.z = vi x.weig.centre.z ∧ True) ∧ (vi x.weig.centre.y = vi x.weig.centre.y ∧ True) ∧ (vi x.weig.centre.x = vi x.weig.centre.x ∧ True) ∧ (vi x.weig.mass = vi x.weig.mass ∧ True) ∧ True) ∧ T8 (T2 ((toI (vi 0) ≤ 0 ∧ toI (vi 0) < (↑5 : Int)) ∧ True ∧ (-9223372036854775808 ≤ x.weig.mass ∧ x.weig.mass < 9223372036854775808) ∧ 0 + ByteArray.size (bInt x.weig.mass) ≤ 9223372036854775807 ∧ T8 (T2 (True ∧ (toI (vi 0) ≤ IntKind.wrap IntKind.i64 (0 + 1) ∧ toI (vi (IntKind.wrap IntKind.i64 (0 + 1))) < (↑5 : Int)) ∧ True ∧ (-9223372036854775808 ≤ x.weig.centre.x ∧ x.weig.centre.x < 9223372036854775808) ∧ ByteArray.size (ByteArray.mk #[] ++ bInt x.weig.mass) + ByteArray.size (bInt x.weig.centre.x) ≤ 9223372036854775807 ∧ T8 (T2 (True ∧ (toI (vi 0) ≤ IntKind.wrap IntKind.i64 q3 ∧ toI (vi (IntKind.wrap IntKind.i64 q3)) < (↑5 : Int)) ∧ True ∧ (-9223372036854775808 ≤ x.weig.centre.y ∧ x.weig.centre.y < 9223372036854775808) ∧ ByteArray.size (ByteArray.mk #[] ++ bInt x.weig.mass ++ bInt x.weig.centre.x) + ByteArray.size (bInt x.weig.centre.y) ≤ 9223372036854775807 ∧ T8 (T2 (True ∧ (toI (vi 0) ≤ IntKind.wrap IntKind.i64 q9 ∧ toI (vi (IntKind.wrap IntKind.i64 q9)) < (↑5 : Int)) ∧ True ∧ (-9223372036854775808 ≤ x.weig.centre.z ∧ x.weig.centre.z < 9223372036854775808) ∧ ByteArray.size (ByteArray.mk #[] ++ bInt x.weig.mass ++ bInt x.weig.centre.x ++ bInt x.weig.centre.y) + ByteArray.size (bInt x.weig.centre.z) ≤ 9223372036854775807 ∧ T8 (T2 (True ∧ (toI (vi 0) ≤ IntKind.wrap IntKind.i64 (IntKind.wrap IntKind.i64 q9 + 1) ∧ toI (vi (IntKind.wrap IntKind.i64 (IntKind.wrap IntKind.i64 q9 + 1))) < (↑5 : Int)) ∧ True ∧ (-9223372036854775808 ≤ x.weig.sigma ∧ x.weig.sigma < 9223372036854775808) ∧ ByteArray.size (ByteArray.mk #[] ++ bInt x.weig.mass ++ bInt x.weig.centre.x ++ bInt x.weig.centre.y ++ bInt x.weig.centre.z) + ByteArray.size (bInt x.weig.sigma) ≤ 9223372036854775807 ∧ T8 (T2 (True ∧ ByteArray.size (bText x.weig.block) + ByteArray.size q5 ≤ 9223372036854775807 ∧ True ∧ (True ∧ True) ∧ true = true ∧ Post (Out.ret (vs (bText x.weig.block ++ q5))) [])))))))))))))))) (T2 (pIf (decide (x.kind = 15)) (T16 (x.permit.id.size ≤ 16000000 ∧ ((vi x.permit.time.b = vi x.permit.time.b ∧ True) ∧ (vi x.permit.time.a = vi x.permit.time.a ∧ True) ∧ (vi x.permit.kind = vi x.permit.kind ∧ True) ∧ True) ∧ T8 (T2 ((toI (vi 0) ≤ 0 ∧ toI (vi 0) < (↑3 : Int)) ∧ True ∧ (-9223372036854775808 ≤ x.permit.kind ∧ x.permit.kind < 9223372036854775808) ∧ 0 + ByteArray.size (bInt x.permit.kind) ≤ 9223372036854775807 ∧ T8 (T2 (True ∧ q6 ∧ True ∧ (-9223372036854775808 ≤ x.permit.time.a ∧ x.permit.time.a < 9223372036854775808) ∧ ByteArray.size (ByteArray.mk #[] ++ bInt x.permit.kind) + ByteArray.size (bInt x.permit.time.a) ≤ 9223372036854775807 ∧ T8 (T2 (True ∧ q8 ∧ True ∧ (-9223372036854775808 ≤ x.permit.time.b ∧ x.permit.time.b < 9223372036854775808) ∧ ByteArray.size (ByteArray.mk #[] ++ bInt x.permit.kind ++ bInt x.permit.time.a) + ByteArray.size (bInt x.permit.time.b) ≤ 9223372036854775807 ∧ T8 (T2 (True ∧ ByteArray.size (bText x.permit.id) + ByteArray.size q10 ≤ 9223372036854775807 ∧ True ∧ (True ∧ True) ∧ true = true ∧ Post (Out.ret (vs (bText x.permit.id ++ q10))) [])))))))))) (T2 (∃ (x_1 : Event), eqL [Value.agg (evK x.kind x).toArray] [eventV x_1] ∧ FitEv x_1 ∧ True ∧ (True ∧ True) ∧ true = true ∧ Post (Out.ret (vs (listsB x_1))) [])))))))))))))))))))))))))))) := by kernel_rfl
theorem e_renc (x : Event) (H : HT) (Post : PX) : vcX Tryz.prog callRh 15 [] [] [eventV x] H Post = (T4 (∃ (x_1 : Event), eqL [Value.agg (evK x.kind x).toArray] [eventV x_1] ∧ ShortEv x_1 ∧ Few1k x_1 ∧ x_1.item.size < 16777000 ∧ T2 (True ∧ pIf (!decide (refE x_1 = 0)) (T2 (True ∧ (T2 (True ∧ True)) ∧ true = true ∧ Post (Out.ret (Value.tuple #[vz, vi (refE x_1)])) [])) (T16 ((toI (vi 0) ≤ 0 ∧ toI (vi 0) < (↑2 : Int)) ∧ True ∧ (-9223372036854775808 ≤ x.kind ∧ x.kind < 9223372036854775808) ∧ 0 + ByteArray.size (bInt x.kind) ≤ 9223372036854775807 ∧ T8 (T2 (True ∧ (toI (vi 0) ≤ IntKind.wrap IntKind.i64 (0 + 1) ∧ toI (vi (IntKind.wrap IntKind.i64 (0 + 1))) < (↑2 : Int)) ∧ True ∧ (-9223372036854775808 ≤ x.at_ ∧ x.at_ < 9223372036854775808) ∧ ByteArray.size (ByteArray.mk #[] ++ bInt x.kind) + ByteArray.size (bInt x.at_) ≤ 9223372036854775807 ∧ T8 (T2 (((Value.agg (evK x.kind x).toArray = Value.agg (evK x.kind x).toArray ∧ True) ∧ True) ∧ ∃ (x_2 : Event), eqL [Value.agg (evK x.kind x).toArray] [eventV x_2] ∧ 1 ≤ x_2.kind ∧ x_2.kind ≤ 18 ∧ FitEv x_2 ∧ InOrder x_2.order ∧ FewO x_2.order ∧ ByteArray.size (bOrder x_2.order) ≤ 16000000 ∧ True ∧ ByteArray.size (ByteArray.mk #[] ++ bInt x.kind ++ bInt x.at_) + ByteArray.size (bBody x_2 (Int.toNat x_2.kind)) ≤ 9223372036854775807 ∧ T2 ((T2 (True ∧ True)) ∧ true = true ∧ Post (Out.ret (Value.tuple #[vs (ByteArray.mk #[] ++ bInt x.kind ++ bInt x.at_ ++ bBody x_2 (Int.toNat x_2.kind)), vi 0])) [])))))))))) := by kernel_rfl
theorem bT2 : (⟨#[245]⟩ : ByteArray) = bBool true := rfl
theorem bF2 : (⟨#[244]⟩ : ByteArray) = bBool false := rfl
theorem FitEv.fitK {x : Event} (h : FitEv x) {k : Nat} (hk : x.kind = k) : fits (shN k) (vaN x k) := by
 have := h.fit
 rw [hk] at this
 exact this
theorem FitEv.listK {x : Event} (h : FitEv x) {k : Nat} (hk : x.kind = k) : fitsL x k := by
 have := h.lists
 rw [hk] at this
 exact this
theorem ll5 {x : Event} (hL : fitsL x 5) {Q : Out → List (List Value) → Prop} (B : ByteArray) (hB : B.size ≤ 4000000000) (hP : Q (.ret (.string (B ++ bEs (vaE x 5)))) []) : OkX Tryz.prog 61 [eventV x] 0 Q (lpC Tryz.prog 61 6) (lpK Tryz.prog 61 6) (stV [(1, some pt0), (3, some (.string B)), (4, some (.int .i64 0))] [(0, some (.cells (eventC x) true))] 1) := by
 simp only [fitsL, shE, vaE, List.length_map] at hL
 have hlen : (vaE x 5).length = x.nest.spots.length := by simp [vaE]
 have key := down (n := x.nest.spots.length) (p := fun k => ∀ C, C = B ++ bEs ((vaE x 5).take k) → C.size ≤ 4000000000 + 200 * k → OkX Tryz.prog 61 [eventV x] 0 Q (lpC Tryz.prog 61 6) (lpK Tryz.prog 61 6) (stV [(1, some pt0), (3, some (.string C)), (4, some (.int .i64 k))] [(0, some (.cells (eventC x) true))] 1)) (fun C hC _ => ?_) (fun k hk ih C hC hs => ?_)
 ·have := key B (by rw [List.take_zero]; exact (ba_nilr B).symm) (by omega)
  exact this
 ·refine ok_X callRf_ok mixed [(6, [1, 3, 4]), (13, [1, 3, 6]), (19, [1, 3, 7])] (l_ls5 x C _ _ _) ?_
  simp only [true_and, and_true]
  refine pIfD (fun hh => absurd hh (by omega)) (fun _ => ?_)
  have e : C = B ++ bEs (vaE x 5) := by rw [hC, ← hlen, List.take_length]
  rw [e]
  repeat' (first | exact rfl | refine And.intro ?_ ?_ | trivial | exact hP)
 ·refine ok_X callRf_ok mixed [(6, [1, 3, 4]), (13, [1, 3, 6]), (19, [1, 3, 7])] (l_ls5 x C _ _ _) ?_
  have ek : ((k : Nat) : Int).toNat = k := by omega
  have el : x.nest.spots[k] ∈ x.nest.spots := List.getElem_mem hk
  have hf := hL.2 _ (List.mem_map_of_mem el)
  simp only [vaSpot, fits, fit] at hf
  have := bText_size x.nest.spots[k].part
  have := bInt_size x.nest.spots[k].at_.x
  have := bInt_size x.nest.spots[k].at_.y
  have := bInt_size x.nest.spots[k].turn
  have ht := bEs_take (l := vaE x 5) (k := k) (by omega)
  have hX : ∀ C', C' = C ++ bVs (vaE x 5)[k] → C'.size ≤ 4000000000 + 200 * (k + 1) → OkX Tryz.prog 61 [eventV x] 0 Q (lpC Tryz.prog 61 6) (lpK Tryz.prog 61 6) (stV [(1, some pt0), (3, some (.string C')), (4, some (.int .i64 ((k + 1 : Nat) : Int)))] [(0, some (.cells (eventC x) true))] 1) := fun C' h1 h2 => ih C' (by rw [h1, hC, ht, ba_assoc]) h2
  clear ih hP hC ht
  have eV : (vaE x 5)[k] = vaSpot x.nest.spots[k] := by simp [vaE]
  rw [eV] at hX
  simp only [true_and, and_true, bT2, bF2, ek, wrapSucc (show k < 2 ^ 62 by omega), cell_spot hk, spotC, List.getElem?_cons_succ, List.getElem?_cons_zero, Option.getD_some, toI, toS, toB, ba_nil]
  refine pIfD (fun _ => ?_) (fun hh => absurd hh (by omega))
  repeat' (first | exact rfl | refine And.intro ?_ ?_ | trivial | decide | omega | exact .cons ⟨_, rfl⟩ .nil | exact congrArg Value.bool hb | (simp only [ba_size]; omega) | (simp only [ba_size, one_size]; omega) | refine pIf_intro (fun hb => ?_) (fun hb => ?_) | (refine hX _ ?_ ?_ <;> first | (simp only [bVs, bVa, ba_assoc, ba_nilr, vaSpot]; done) | (simp only [bVs, bVa, hb, ba_assoc, ba_nilr, vaSpot]; done) | (simp only [ba_size]; omega) | (simp only [ba_size, one_size]; omega)))
theorem ll6 {x : Event} (hL : fitsL x 6) {Q : Out → List (List Value) → Prop} (B : ByteArray) (hB : B.size ≤ 4000000000) (hP : Q (.ret (.string (B ++ bEs (vaE x 6)))) []) : OkX Tryz.prog 61 [eventV x] 0 Q (lpC Tryz.prog 61 13) (lpK Tryz.prog 61 13) (stV [(1, some pt0), (3, some (.string B)), (6, some (.int .i64 0))] [(0, some (.cells (eventC x) true))] 1) := by
 simp only [fitsL, shE, vaE, List.length_map] at hL
 have hlen : (vaE x 6).length = x.saw.parts.length := by simp [vaE]
 have key := down (n := x.saw.parts.length) (p := fun k => ∀ C, C = B ++ bEs ((vaE x 6).take k) → C.size ≤ 4000000000 + 200 * k → OkX Tryz.prog 61 [eventV x] 0 Q (lpC Tryz.prog 61 13) (lpK Tryz.prog 61 13) (stV [(1, some pt0), (3, some (.string C)), (6, some (.int .i64 k))] [(0, some (.cells (eventC x) true))] 1)) (fun C hC _ => ?_) (fun k hk ih C hC hs => ?_)
 ·have := key B (by rw [List.take_zero]; exact (ba_nilr B).symm) (by omega)
  exact this
 ·refine ok_X callRf_ok mixed [(6, [1, 3, 4]), (13, [1, 3, 6]), (19, [1, 3, 7])] (l_ls6 x C _ _ _) ?_
  simp only [true_and, and_true]
  refine pIfD (fun hh => absurd hh (by omega)) (fun _ => ?_)
  have e : C = B ++ bEs (vaE x 6) := by rw [hC, ← hlen, List.take_length]
  rw [e]
  repeat' (first | exact rfl | refine And.intro ?_ ?_ | trivial | exact hP)
 ·refine ok_X callRf_ok mixed [(6, [1, 3, 4]), (13, [1, 3, 6]), (19, [1, 3, 7])] (l_ls6 x C _ _ _) ?_
  have ek : ((k : Nat) : Int).toNat = k := by omega
  have el : x.saw.parts[k] ∈ x.saw.parts := List.getElem_mem hk
  have hf := hL.2 _ (List.mem_map_of_mem el)
  simp only [fits, fit] at hf
  have := bText_size x.saw.parts[k]
  have ht := bEs_take (l := vaE x 6) (k := k) (by omega)
  have hX : ∀ C', C' = C ++ bVs (vaE x 6)[k] → C'.size ≤ 4000000000 + 200 * (k + 1) → OkX Tryz.prog 61 [eventV x] 0 Q (lpC Tryz.prog 61 13) (lpK Tryz.prog 61 13) (stV [(1, some pt0), (3, some (.string C')), (6, some (.int .i64 ((k + 1 : Nat) : Int)))] [(0, some (.cells (eventC x) true))] 1) := fun C' h1 h2 => ih C' (by rw [h1, hC, ht, ba_assoc]) h2
  clear ih hP hC ht
  have eV : (vaE x 6)[k] = [.s x.saw.parts[k]] := by simp [vaE]
  rw [eV] at hX
  simp only [true_and, and_true, ek, wrapSucc (show k < 2 ^ 62 by omega), cell_name hk, List.getElem?_cons_zero, Option.getD_some, toS]
  refine pIfD (fun _ => ?_) (fun hh => absurd hh (by omega))
  repeat' (first | exact rfl | refine And.intro ?_ ?_ | trivial | decide | omega | exact .cons ⟨_, rfl⟩ .nil | exact congrArg Value.bool hb | (simp only [ba_size]; omega) | (simp only [ba_size, one_size]; omega) | refine pIf_intro (fun hb => ?_) (fun hb => ?_) | (refine hX _ ?_ ?_ <;> first | (simp only [bVs, bVa, ba_assoc, ba_nilr]; done) | (simp only [bVs, bVa, hb, ba_assoc, ba_nilr]; done) | (simp only [ba_size]; omega) | (simp only [ba_size, one_size]; omega)))
theorem ll14 {x : Event} (hL : fitsL x 14) {Q : Out → List (List Value) → Prop} (B : ByteArray) (hB : B.size ≤ 4000000000) (hP : Q (.ret (.string (B ++ bEs (vaE x 14)))) []) : OkX Tryz.prog 61 [eventV x] 0 Q (lpC Tryz.prog 61 19) (lpK Tryz.prog 61 19) (stV [(1, some pt0), (3, some (.string B)), (7, some (.int .i64 0))] [(0, some (.cells (eventC x) true))] 1) := by
 simp only [fitsL, shE, vaE, List.length_map] at hL
 have hlen : (vaE x 14).length = x.lift.hooks.length := by simp [vaE]
 have key := down (n := x.lift.hooks.length) (p := fun k => ∀ C, C = B ++ bEs ((vaE x 14).take k) → C.size ≤ 4000000000 + 200 * k → OkX Tryz.prog 61 [eventV x] 0 Q (lpC Tryz.prog 61 19) (lpK Tryz.prog 61 19) (stV [(1, some pt0), (3, some (.string C)), (7, some (.int .i64 k))] [(0, some (.cells (eventC x) true))] 1)) (fun C hC _ => ?_) (fun k hk ih C hC hs => ?_)
 ·have := key B (by rw [List.take_zero]; exact (ba_nilr B).symm) (by omega)
  exact this
 ·refine ok_X callRf_ok mixed [(6, [1, 3, 4]), (13, [1, 3, 6]), (19, [1, 3, 7])] (l_ls14 x C _ _ _) ?_
  simp only [true_and, and_true]
  refine pIfD (fun hh => absurd hh (by omega)) (fun _ => ?_)
  have e : C = B ++ bEs (vaE x 14) := by rw [hC, ← hlen, List.take_length]
  rw [e]
  repeat' (first | exact rfl | refine And.intro ?_ ?_ | trivial | exact hP)
 ·refine ok_X callRf_ok mixed [(6, [1, 3, 4]), (13, [1, 3, 6]), (19, [1, 3, 7])] (l_ls14 x C _ _ _) ?_
  have ek : ((k : Nat) : Int).toNat = k := by omega
  have el : x.lift.hooks[k] ∈ x.lift.hooks := List.getElem_mem hk
  have hf := hL.2 _ (List.mem_map_of_mem el)
  simp only [vaHook, fits, fit] at hf
  have := bText_size x.lift.hooks[k].crane
  have := bInt_size x.lift.hooks[k].at_.x
  have := bInt_size x.lift.hooks[k].at_.y
  have := bInt_size x.lift.hooks[k].radius
  have ht := bEs_take (l := vaE x 14) (k := k) (by omega)
  have hX : ∀ C', C' = C ++ bVs (vaE x 14)[k] → C'.size ≤ 4000000000 + 200 * (k + 1) → OkX Tryz.prog 61 [eventV x] 0 Q (lpC Tryz.prog 61 19) (lpK Tryz.prog 61 19) (stV [(1, some pt0), (3, some (.string C')), (7, some (.int .i64 ((k + 1 : Nat) : Int)))] [(0, some (.cells (eventC x) true))] 1) := fun C' h1 h2 => ih C' (by rw [h1, hC, ht, ba_assoc]) h2
  clear ih hP hC ht
  have eV : (vaE x 14)[k] = vaHook x.lift.hooks[k] := by simp [vaE]
  rw [eV] at hX
  simp only [true_and, and_true, ek, wrapSucc (show k < 2 ^ 62 by omega), cell_hook hk, hook4C, List.getElem?_cons_succ, List.getElem?_cons_zero, Option.getD_some, toI, toS, ba_nil]
  refine pIfD (fun _ => ?_) (fun hh => absurd hh (by omega))
  repeat' (first | exact rfl | refine And.intro ?_ ?_ | trivial | decide | omega | exact .cons ⟨_, rfl⟩ .nil | exact congrArg Value.bool hb | (simp only [ba_size]; omega) | (simp only [ba_size, one_size]; omega) | refine pIf_intro (fun hb => ?_) (fun hb => ?_) | (refine hX _ ?_ ?_ <;> first | (simp only [bVs, bVa, ba_assoc, ba_nilr, vaHook]; done) | (simp only [bVs, bVa, hb, ba_assoc, ba_nilr, vaHook]; done) | (simp only [ba_size]; omega) | (simp only [ba_size, one_size]; omega)))
theorem ok_lists : EntOk Tryz.prog ⟨61, c_lists⟩ := by
 rintro args Post ⟨x, rfl, hg, h⟩
 refine B.pure_of_X ?_
 refine spec_X (conts := []) callRf_ok mixed (by kernel_rfl) (by kernel_rfl) [(6, [1, 3, 4]), (13, [1, 3, 6]), (19, [1, 3, 7])] (e_ls x _ _) ?_
 simp only [true_and, and_true, Int.toNat_natCast]
 refine pIfD (fun hk => ?_) (fun n5 => ?_)
 ·have hf := hg.fitK (k := 5) hk
  have hL := hg.listK (k := 5) hk
  simp only [shN, vaN, fits, fit] at hf
  have hL2 := hL
  simp only [fitsL, shE, vaE, List.length_map] at hL2
  have := bList_size x.nest.spots.length
  have := bText_size x.nest.sheet
  have := bInt_size x.nest.gap
  have e : listsB x = bVs (vaN x 5) ++ bLs x 5 := by unfold listsB; rw [if_pos (by omega), hk]; rfl
  rw [e] at h
  simp only [bLs, shE, vaN, bVs, bVa, ba_nilr, vaE, List.length_map] at h
  repeat' (first | exact rfl | refine And.intro ?_ ?_ | trivial | decide | omega | (simp only [ba_size]; omega) | refine ll5 hL _ ?_ ?_ | (simp only [vaE, ba_assoc] at h ⊢; exact h))
 refine pIfD (fun hk => ?_) (fun n6 => ?_)
 ·have hf := hg.fitK (k := 6) hk
  have hL := hg.listK (k := 6) hk
  simp only [shN, vaN, fits, fit] at hf
  have hL2 := hL
  simp only [fitsL, shE, vaE, List.length_map] at hL2
  have := bList_size x.saw.parts.length
  have := bText_size x.saw.bar
  have := bInt_size x.saw.kerf
  have e : listsB x = bVs (vaN x 6) ++ bLs x 6 := by unfold listsB; rw [if_pos (by omega), hk]; rfl
  rw [e] at h
  simp only [bLs, shE, vaN, bVs, bVa, ba_nilr, vaE, List.length_map] at h
  repeat' (first | exact rfl | refine And.intro ?_ ?_ | trivial | decide | omega | (simp only [ba_size]; omega) | refine ll6 hL _ ?_ ?_ | (simp only [vaE, ba_assoc] at h ⊢; exact h))
 refine pIfD (fun hk => ?_) (fun n14 => ?_)
 ·have hf := hg.fitK (k := 14) hk
  have hL := hg.listK (k := 14) hk
  simp only [shN, vaN, fits, fit] at hf
  have hL2 := hL
  simp only [fitsL, shE, vaE, List.length_map] at hL2
  have := bList_size x.lift.hooks.length
  have := bText_size x.lift.block
  have e : listsB x = bVs (vaN x 14) ++ bLs x 14 := by unfold listsB; rw [if_pos (by omega), hk]; rfl
  rw [e] at h
  simp only [bLs, shE, vaN, bVs, bVa, ba_nilr, vaE, List.length_map] at h
  repeat' (first | exact rfl | refine And.intro ?_ ?_ | trivial | decide | omega | (simp only [ba_size]; omega) | refine ll14 hL _ ?_ ?_ | (simp only [vaE, ba_assoc] at h ⊢; exact h))
 have e : listsB x = ⟨#[]⟩ := by unfold listsB; rw [if_neg (by omega)]
 rw [e] at h
 repeat' (first | exact rfl | refine And.intro ?_ ?_ | trivial | exact h)
theorem callRg_ok : PCallOk Tryz.prog callRg := inlP_ok mixed (ofV_ok (tabCall_ok (by
 intro e he
 rcases List.mem_cons.1 he with rfl | he
 ·exact ok_lists
 ·exact tabRf_ok e he) noCall_ok)) 3
theorem ok_fields : EntOk Tryz.prog ⟨35, c_fields⟩ := by
 rintro args Post ⟨x, rfl, k1, k2, hg, hi, hfo, hbo, h⟩
 refine B.pure_of_X ?_
 refine spec_X (conts := []) callRg_ok mixed (by kernel_rfl) (by kernel_rfl) [] (e_fs x _ _) ?_
 have hkind := kinds k1 k2
 simp only [true_and, and_true, ba_nil, bT2, bF2, ba_assoc]
 refine pIfD (fun hk => ?_) (fun n1 => ?_)
 ·clear hkind
  rw [hk] at h
  repeat' (first | exact rfl | refine And.intro ?_ ?_ | trivial | exact ⟨x.order, rfl, hi, hfo, hbo, h⟩ | exact ⟨x.order, rfl, hi, hfo, hbo, trivial, rfl, h⟩ | exact ⟨x.order, rfl, hi, hfo, hbo, rfl, h⟩)
 refine pIfD (fun hk => ?_) (fun n2 => ?_)
 ·clear hkind
  rw [hk] at h
  have hf := hg.fitK (k := 2) hk
  simp only [shN, vaN, fits, fit] at hf
  have := bText_size x.sheet.id
  have := bText_size x.sheet.grade
  have := bInt_size x.sheet.thick
  have := bInt_size x.sheet.long
  have := bInt_size x.sheet.width
  have := bText_size x.sheet.heat
  replace h : Post (.string (bVs (vaN x 2) ++ bLs x 2)) := h
  simp only [vaN, bVs, bVa, bLs, shE, ba_assoc, ba_nilr] at h
  and_intros <;> try first | omega | decide | (simp only [ba_size]; omega) | exact h | rfl
 refine pIfD (fun hk => ?_) (fun n3 => ?_)
 ·clear hkind
  rw [hk] at h
  have hf := hg.fitK (k := 3) hk
  simp only [shN, vaN, fits, fit] at hf
  have := bText_size x.bar.id
  have := bText_size x.bar.sect
  have := bText_size x.bar.grade
  have := bInt_size x.bar.long
  have := bText_size x.bar.heat
  replace h : Post (.string (bVs (vaN x 3) ++ bLs x 3)) := h
  simp only [vaN, bVs, bVa, bLs, shE, ba_assoc, ba_nilr] at h
  and_intros <;> try first | omega | decide | (simp only [ba_size]; omega) | exact h | rfl
 refine pIfD (fun hk => ?_) (fun n4 => ?_)
 ·clear hkind
  rw [hk] at h
  have hf := hg.fitK (k := 4) hk
  simp only [shN, vaN, fits, fit] at hf
  have := bText_size x.item
  have := bText_size x.by_
  replace h : Post (.string (bVs (vaN x 4) ++ bLs x 4)) := h
  simp only [vaN, bVs, bVa, bLs, shE, ba_assoc, ba_nilr] at h
  and_intros <;> try first | omega | decide | (simp only [ba_size]; omega) | exact h | rfl
 refine pIfD (fun hk => ?_) (fun n7 => ?_)
 ·clear hkind
  rw [hk] at h
  have hf := hg.fitK (k := 7) hk
  simp only [shN, vaN, fits, fit] at hf
  have := bText_size x.item
  replace h : Post (.string (bVs (vaN x 7) ++ bLs x 7)) := h
  simp only [vaN, bVs, bVa, bLs, shE, ba_assoc, ba_nilr] at h
  and_intros <;> try first | omega | decide | (simp only [ba_size]; omega) | exact h | rfl
 refine pIfD (fun hk => ?_) (fun n8 => ?_)
 ·clear hkind
  rw [hk] at h
  have hf := hg.fitK (k := 8) hk
  simp only [shN, vaN, fits, fit] at hf
  have := bText_size x.item
  replace h : Post (.string (bVs (vaN x 8) ++ bLs x 8)) := h
  simp only [vaN, bVs, bVa, bLs, shE, ba_assoc, ba_nilr] at h
  and_intros <;> try first | omega | decide | (simp only [ba_size]; omega) | exact h | rfl
 refine pIfD (fun hk => ?_) (fun n12 => ?_)
 ·clear hkind
  rw [hk] at h
  have hf := hg.fitK (k := 12) hk
  simp only [shN, vaN, fits, fit] at hf
  have := bText_size x.item
  replace h : Post (.string (bVs (vaN x 12) ++ bLs x 12)) := h
  simp only [vaN, bVs, bVa, bLs, shE, ba_assoc, ba_nilr] at h
  and_intros <;> try first | omega | decide | (simp only [ba_size]; omega) | exact h | rfl
 refine pIfD (fun hk => ?_) (fun n16 => ?_)
 ·clear hkind
  rw [hk] at h
  have hf := hg.fitK (k := 16) hk
  simp only [shN, vaN, fits, fit] at hf
  have := bText_size x.item
  replace h : Post (.string (bVs (vaN x 16) ++ bLs x 16)) := h
  simp only [vaN, bVs, bVa, bLs, shE, ba_assoc, ba_nilr] at h
  and_intros <;> try first | omega | decide | (simp only [ba_size]; omega) | exact h | rfl
 refine pIfD (fun hk => ?_) (fun n9 => ?_)
 ·clear hkind
  rw [hk] at h
  have hf := hg.fitK (k := 9) hk
  simp only [shN, vaN, fits, fit] at hf
  have := bText_size x.item
  have := bText_size x.of_
  have := bText_size x.by_
  replace h : Post (.string (bVs (vaN x 9) ++ bLs x 9)) := h
  simp only [vaN, bVs, bVa, bLs, shE, ba_assoc, ba_nilr] at h
  and_intros <;> try first | omega | decide | (simp only [ba_size]; omega) | exact h | rfl
 refine pIfD (fun hk => ?_) (fun n11 => ?_)
 ·clear hkind
  rw [hk] at h
  have hf := hg.fitK (k := 11) hk
  simp only [shN, vaN, fits, fit] at hf
  have := bText_size x.item
  have := bText_size x.of_
  have := bText_size x.by_
  replace h : Post (.string (bVs (vaN x 11) ++ bLs x 11)) := h
  simp only [vaN, bVs, bVa, bLs, shE, ba_assoc, ba_nilr] at h
  and_intros <;> try first | omega | decide | (simp only [ba_size]; omega) | exact h | rfl
 refine pIfD (fun hk => ?_) (fun n10 => ?_)
 ·clear hkind
  rw [hk] at h
  have hf := hg.fitK (k := 10) hk
  simp only [shN, vaN, fits, fit] at hf
  have := bText_size x.item
  have := bInt_size x.n
  replace h : Post (.string (bVs (vaN x 10) ++ bLs x 10)) := h
  simp only [vaN, bVs, bVa, bLs, shE, ba_assoc, ba_nilr] at h
  repeat' (first | exact rfl | refine And.intro ?_ ?_ | trivial | decide | omega | exact .cons ⟨_, rfl⟩ .nil | exact congrArg Value.bool hb | (simp only [ba_size]; omega) | (simp only [ba_size, one_size]; omega) | refine pIf_intro (fun hb => ?_) (fun hb => ?_) | exact h | (rw [hb] at h; exact h))
 refine pIfD (fun hk => ?_) (fun n13 => ?_)
 ·clear hkind
  rw [hk] at h
  have hf := hg.fitK (k := 13) hk
  simp only [shN, vaN, fits, fit] at hf
  have := bText_size x.weig.block
  have := bInt_size x.weig.mass
  have := bInt_size x.weig.centre.x
  have := bInt_size x.weig.centre.y
  have := bInt_size x.weig.centre.z
  have := bInt_size x.weig.sigma
  replace h : Post (.string (bVs (vaN x 13) ++ bLs x 13)) := h
  simp only [vaN, bVs, bVa, bLs, shE, ba_assoc, ba_nilr] at h
  and_intros <;> try first | omega | decide | (simp only [ba_size]; omega) | exact h | rfl
 refine pIfD (fun hk => ?_) (fun n15 => ?_)
 ·clear hkind
  rw [hk] at h
  have hf := hg.fitK (k := 15) hk
  simp only [shN, vaN, fits, fit] at hf
  have := bText_size x.permit.id
  have := bInt_size x.permit.kind
  have := bInt_size x.permit.time.a
  have := bInt_size x.permit.time.b
  replace h : Post (.string (bVs (vaN x 15) ++ bLs x 15)) := h
  simp only [vaN, bVs, bVa, bLs, shE, ba_assoc, ba_nilr] at h
  and_intros <;> try first | omega | decide | (simp only [ba_size]; omega) | exact h | rfl
 have e : bBody x x.kind.toNat = listsB x := by
  have : x.kind = 5 ∨ x.kind = 6 ∨ x.kind = 14 ∨ x.kind = 17 ∨ x.kind = 18 := by omega
  unfold listsB
  rcases this with hk | hk | hk | hk | hk <;> rw [hk] <;> rfl
 rw [e] at h
 repeat' (first | exact rfl | refine And.intro ?_ ?_ | trivial | exact ⟨x, rfl, hg, h⟩ | exact ⟨x, rfl, hg, trivial, rfl, h⟩ | exact ⟨x, rfl, hg, rfl, h⟩)
theorem bVs_size : ∀ {fs : List Fd} {vs : List Va}, fits fs vs → (bVs vs).size ≤ 80 * fs.length
 | [], [], _ => by decide
 | f :: fs, v :: vs, h => by
  have h1 := bVs_size h.2
  have h2 : (bVa v).size ≤ 80 := by
   have h0 := h.1
   cases f <;> cases v <;> simp only [fit] at h0
   ·rename_i s; have := bText_size s; show (bText s).size ≤ 80; omega
   ·rename_i n; have := bInt_size n; show (bInt n).size ≤ 80; omega
   ·exact Nat.le_trans (Nat.le_of_eq one_size) (by decide)
  simp only [bVs, ba_size, List.length_cons]
  omega
 | [], _ :: _, h => h.elim
 | _ :: _, [], h => h.elim
theorem bEs_size {fs : List Fd} (hn : fs.length ≤ 10) : ∀ {es : List (List Va)}, (∀ v ∈ es, fits fs v) → (bEs es).size ≤ 800 * es.length
 | [], _ => by decide
 | v :: es, h => by
  have h1 := bEs_size hn (es := es) fun u hu => h u (by simp [hu])
  have h2 := bVs_size (h v (by simp))
  simp only [bEs, ba_size, List.length_cons]
  omega
theorem shN_len (k : Nat) : (shN k).length ≤ 6 := by
 unfold shN
 split <;> decide
theorem body_size {x : Event} (k1 : 1 ≤ x.kind) (k2 : x.kind ≤ 18) (hg : FitEv x) (hb : (bOrder x.order).size ≤ 16000000) : (bBody x x.kind.toNat).size ≤ 4000000000 := by
 have h1 := bVs_size hg.fit
 have h2 := shN_len x.kind.toNat
 have h3 := hg.lists
 have hl : (bLs x x.kind.toNat).size ≤ 100000 := by
  unfold bLs
  unfold fitsL at h3
  cases hE : shE x.kind.toNat with
  | none => dsimp only; decide
  | some p =>
   obtain ⟨m, fs⟩ := p
   rw [hE] at h3
   dsimp only at h3 ⊢
   have hm : m ≤ 32 ∧ fs.length ≤ 10 := by
    unfold shE at hE
    split at hE <;> cases hE <;> decide
   have h4 := bEs_size hm.2 h3.2
   have h5 := bList_size (vaE x x.kind.toNat).length
   rw [ba_size]
   omega
 unfold bBody
 split
 ·have := bText_size (bOrder x.order); omega
 ·rw [ba_size]; omega
theorem callRh_ok : PCallOk Tryz.prog callRh := inlP_ok mixed (ofV_ok (tabCall_ok (by
 intro e he
 rcases List.mem_cons.1 he with rfl | he
 ·exact ok_rcheck
 rcases List.mem_cons.1 he with rfl | he
 ·exact ok_fields
 ·exact tabRf_ok e he) noCall_ok)) 3
def rencR (x : Event) : ByteArray × Int := if refE x = 0 then (bEv x, 0) else (⟨#[]⟩, refE x)
def c_renc (args : List Value) (Post : Value → Prop) : Prop := ∃ x : Event, args = [eventV x] ∧ ShortEv x ∧ Few1k x ∧ x.item.size < 16777000 ∧ InOrder x.order ∧ FewO x.order ∧ (bOrder x.order).size ≤ 16000000 ∧ (refE x = 0 → 1 ≤ x.kind ∧ x.kind ≤ 18 ∧ 0 ≤ x.at_ ∧ x.at_ ≤ 1048576 ∧ FitEv x) ∧ Post (.tuple #[.string (rencR x).1, .int .i64 (rencR x).2])
theorem ok_renc : EntOk Tryz.prog ⟨15, c_renc⟩ := by
 rintro args Post ⟨x, rfl, hs, h1k, hz, hi, hfo, hbo, hok, h⟩
 refine B.pure_of_X ?_
 refine spec_X (conts := []) callRh_ok mixed (by kernel_rfl) (by kernel_rfl) [] (e_renc x _ _) ?_
 have hC : ¬ refE x = 0 → B.retV Post (.ret (.tuple #[.string ⟨#[]⟩, .int .i64 (refE x)])) [] := fun c => by
  unfold rencR at h
  rw [if_neg c] at h
  exact h
 have hO : refE x = 0 → B.retV Post (.ret (.tuple #[.string (bEv x), .int .i64 0])) [] := fun c => by
  unfold rencR at h
  rw [if_pos c] at h
  exact h
 clear h
 simp only [true_and, and_true, ba_nil]
 refine ⟨x, rfl, hs, h1k, hz, pIfN (fun c => ?_) (fun c => ?_)⟩
 ·repeat' (first | exact rfl | refine And.intro ?_ ?_ | trivial | exact hC c)
 obtain ⟨k1, k2, a1, a2, hg⟩ := hok c
 have hO := hO c
 have i1 := bInt_size x.kind
 have i2 := bInt_size x.at_
 have hbs : (bBody x x.kind.toNat).size ≤ 4000000000 := body_size k1 k2 hg hbo
 repeat' (first | exact rfl | refine And.intro ?_ ?_ | trivial | decide | omega | (simp only [ba_size]; omega) | exact hO | refine ⟨x, rfl, k1, k2, hg, hi, hfo, hbo, ?_⟩)
end Go.Proofs.YtegjnjmimfgijaaGreatDoor
