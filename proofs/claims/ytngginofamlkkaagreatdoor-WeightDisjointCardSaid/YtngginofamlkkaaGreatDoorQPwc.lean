/-
  Put together out of several texts, each in its own namespace's block. Conditions: as each theorem states them.
-/
import Derived.Test.YtngginofamlkkaaGreatDoorQPwa
import Derived.Test.YtngginofamlkkaaGreatDoorQGd
import Derived.Test.YtngginofamlkkaaGreatDoorQSl
import Derived.Shelf.Slices.Clone
import Derived.Test.YtngginofamlkkaaGreatDoorQGb
import Derived.Test.YtngginofamlkkaaGreatDoorProg
import Derived.Test.YtngginofamlkkaaGreatDoorQEvr
import Derived.WalkSpells
import Derived.WalkLawsBesides
import Derived.Deep.QuietTactic
import Derived.BigQuiet
import Derived.Lib.Bytealg
import Derived.Laws.RangeAny
noncomputable section
namespace Go.Proofs.YtngginofamlkkaaGreatDoor
open Go Go.RowKit
set_option maxRecDepth 100000
set_option maxHeartbeats 8000000
end Go.Proofs.YtngginofamlkkaaGreatDoor
noncomputable section
namespace Go.Proofs.YtngginofamlkkaaGreatDoor
open Go Go.RowKit Go.Shelf
set_option maxRecDepth 100000
set_option maxHeartbeats 4000000
def renC : Ren := ⟨fun x => if x = 15 then 136 else x, fun x => if x = 22 then 88 else if x = 3 then 3 else if x = 4 then 4 else x, fun x => x⟩
theorem laysC : Lays2.n15 Tryz.prog renC where
 mixed := by kernel_rfl
 f15 := by kernel_rfl
 t3 := by kernel_rfl
 a3 := fun w => by kernel_rfl
 z3 := fun w => by kernel_rfl
 v3 := fun w => by kernel_rfl
 t4 := by kernel_rfl
 a4 := fun w => by kernel_rfl
 z4 := fun w => by kernel_rfl
 v4 := fun w => by kernel_rfl
 t22 := by kernel_rfl
 a22 := fun w => by kernel_rfl
 z22 := fun w => by kernel_rfl
 v22 := fun w => by kernel_rfl
 i3 := by kernel_rfl
def c_clone (args : List Value) (Post : Value → Prop) : Prop := ∃ l : List Int, args = [tree 1 l.length (encL l)] ∧ l.length ≤ 17592186044416 ∧ Post (tree 1 l.length (encL l))
theorem encInt {l : List Int} {i : Nat} {u : Value} (h : (encL l)[i]? = some u) : ∃ (hi : i < l.length), u = .int .i64 l[i] := by
 have e : encL l = (l.map fun n => Value.int .i64 n).toArray := rfl
 rw [e, List.getElem?_toArray, List.getElem?_map] at h
 rcases Nat.lt_or_ge i l.length with hi | hi
 ·rw [List.getElem?_eq_getElem hi] at h
  cases h
  exact ⟨hi, rfl⟩
 ·rw [List.getElem?_eq_none hi] at h
  cases h
theorem cellInt {u v : Value} {n : Int} {j : Nat} (hu : u = .int .i64 n) (h : u.cells[j]? = some v) : j = 0 ∧ v = .int .i64 n := by
 subst hu
 have e : (Value.int .i64 n).cells = #[.int .i64 n] := rfl
 rw [e] at h
 cases j with
 | zero => simp at h; exact ⟨rfl, h.symm⟩
 | succ j => simp at h
theorem freezeNew {ρ : Place} {W : Base} {w w' : World} (h : Rel ρ W .e 0 w') {g : Nat} {ob : Obj} (hg : w.heap.size ≤ g) (hw : W.w.heap.size ≤ w.heap.size) (hf : ∀ x, ρ.fr g = some x → False) (ho : w'.heap[g]? = some ob) :
  Rel (ρ.freeze g ob) W .e 0 w' ∧ (ρ.freeze g ob).fr g = some ob ∧ StepG 0 ρ (ρ.freeze g ob) := by
 have hn : ρ.fr g = none := by
  cases hx : ρ.fr g with
  | none => rfl
  | some x => exact (hf x hx).elim
 have key : ∀ c x, (ρ.freeze g ob).fr c = some x → ρ.fr c = some x ∨ (c = g ∧ x = ob) := fun c x hc => by
  have hc : (match ρ.fr c with | some o => some o | none => if c = g then some ob else none) = some x := hc
  cases hx : ρ.fr c with
  | some y => rw [hx] at hc; exact .inl hc
  | none =>
   rw [hx] at hc
   dsimp only at hc
   split at hc
   ·cases hc; exact .inr ⟨by assumption, rfl⟩
   ·cases hc
 have gg : (ρ.freeze g ob).fr g = some ob := by
  show (match ρ.fr g with | some o => some o | none => if g = g then some ob else none) = _
  rw [hn]
  dsimp only
  rw [if_pos rfl]
 have le : ∀ c x, ρ.fr c = some x → (ρ.freeze g ob).fr c = some x := fun c x hc => by
  show (match ρ.fr c with | some o => some o | none => if c = g then some ob else none) = _
  rw [hc]
 have he : ∀ b, (Tr.e : Tr AObj).get b = none := fun b => by simp [Tr.get]
 refine ⟨⟨h.dom, fun b o c s z hb => (by rw [he] at hb; cases hb), fun b b' x x' o o' hb => (by rw [he] at hb; cases hb), h.fresh, h.below, fun c x hc => ?_, fun b o c s z hb => (by rw [he] at hb; cases hb), fun c x hc => ?_⟩, gg, ⟨fun b x hb => by omega, le⟩⟩
 ·rcases key c x hc with h1 | ⟨rfl, rfl⟩
  ·exact h.frz c x h1
  ·exact ho
 ·rcases key c x hc with h1 | ⟨rfl, rfl⟩
  ·exact h.frn c x h1
  ·exact .inr fun ho => by have := ho.1; omega
theorem ok_clone : EntOk Tryz.prog ⟨136, c_clone⟩ := by
 rintro args Post ⟨l, rfl, hl, h⟩
 intro W ρ w args' hrel hargs
 cases hargs with
 | cons hv hnil =>
 cases hnil
 generalize hn' : l.length = n' at hv
 generalize he' : encL l = els' at hv
 cases hv with
 | @tree sz n cap c o els cs t fz hb h1 h2 h3 h4 h5 =>
  subst hn' he'
  have hheap := hrel.frz c _ hb
  have cells : ∀ j, j < l.length → w.cell? ⟨c, o + j, none⟩ = some (.int .i64 (l.getD j 0)) := fun j hj => by
   have hlt : o + j < cs.size := by omega
   have e : (encL l)[j]? = some (.int .i64 l[j]) := by
    have e : encL l = (l.map fun n => Value.int .i64 n).toArray := rfl
    rw [e, List.getElem?_toArray, List.getElem?_map, List.getElem?_eq_getElem hj]
    rfl
   have r := h5 j 0 _ (.int .i64 l[j]) cs[o + j] e rfl (by rw [Nat.mul_one, Nat.add_zero]; exact Array.getElem?_eq_getElem hlt)
   unfold World.cell?
   dsimp only
   rw [hheap]
   dsimp only
   rw [Array.getElem?_eq_getElem hlt, List.getD_eq_getElem?_getD, List.getElem?_eq_getElem hj]
   generalize cs[o + j] = q at r
   cases r
   rfl
  have key : Calls Tryz.prog 136 #[.slice (some ⟨c, o, none⟩) l.length cap] w _ := Any.slices_Clone_int laysC c o l.length cap l w (Nat.le_refl _) (by omega) cells
  refine key.mono ?_
  rintro e w' ⟨v', rfl, ⟨hlen, hown⟩, hne, hbel⟩
  rcases hown with ⟨rfl, h0⟩ | ⟨g, cap', cur, rfl, hg, hcur, hn, hcap, hsz, htk⟩
  ·exact absurd rfl hne
  have hr1 := hrel.later hbel
  obtain ⟨r1, r2, r3⟩ := freezeNew hr1 hg hrel.below.size (fun x hx => by
   have := hrel.frz g x hx
   rw [Array.getElem?_eq_none hg] at this
   cases this) hcur
  refine ⟨tree 1 l.length (encL l), .e, 0, _, _, h, rfl, VR0.tree r2 (by rw [show (encL l).size = l.length by unfold encL; simp]) hn (by omega) (fun i u hu => ?_) (fun i j u v v' hu hv hv' => ?_), r1, r3⟩
  ·obtain ⟨hi, rfl⟩ := encInt hu
   rfl
  ·obtain ⟨hi, e⟩ := encInt hu
   obtain ⟨rfl, rfl⟩ := cellInt e hv
   have hc : cur.toList[i]? = some (.int .i64 l[i]) := by
    have : (cur.toList.take (l.length * 1))[i]? = some (.int .i64 l[i]) := by
     rw [htk, List.take_length, List.getElem?_map, List.getElem?_eq_getElem hi]
     rfl
    rw [List.getElem?_take, if_pos (by omega)] at this
    exact this
   rw [Nat.mul_one, Nat.add_zero, Nat.zero_add, ← Array.getElem?_toList, hc] at hv'
   cases hv'
   exact .int _ _
 | treeNil sz a cap =>
  have l0 : l = [] := List.eq_nil_of_length_eq_zero hn'
  subst l0
  have back : ∀ (a : Option Addr) (cap : Nat), VR0 ρ.fr (tree 1 ([] : List Int).length (encL ([] : List Int))) (.slice a 0 cap) := fun a cap => .treeNil _ _ _
  cases a with
  | none =>
   have key : Calls Tryz.prog 136 #[.slice none 0 cap] w _ := Any.slices_Clone_int_nil laysC 0 cap w
   refine key.mono ?_
   rintro e w' ⟨rfl, rfl⟩
   exact ⟨_, .e, 0, _, ρ, h, rfl, back _ _, hrel, .refl _ _⟩
  | some a =>
   have key : Calls Tryz.prog 136 #[.slice (some a) 0 cap] w _ := Any.slices_Clone_int_zero laysC a cap w
   refine key.mono ?_
   rintro e w' ⟨v', rfl, ⟨hlen, hown⟩, hne, hbel⟩
   rcases hown with ⟨rfl, h0⟩ | ⟨g, cap', cur, rfl, hg, hcur, hn, hcap, hsz, htk⟩
   ·exact absurd rfl hne
   ·exact ⟨_, .e, 0, _, ρ, h, rfl, back _ _, hrel.later hbel, .refl _ _⟩
end Go.Proofs.YtngginofamlkkaaGreatDoor

noncomputable section
namespace Go.Proofs.YtngginofamlkkaaGreatDoor
open Go Go.RowKit Go.ChangeShapes Go.WideShapes Go.ChangeAt Go.Deep Go.Joins
set_option maxRecDepth 100000
structure Grade4 where
 name : ByteArray
 dens : Int
 yld : Int
 gauges : List Int
 deriving DecidableEq
structure Sect4 where
 name : ByteArray
 area : Int
 height : Int
 stock : Int
 deriving DecidableEq
structure Mats where
 grades : List Grade4
 sects : List Sect4
 deriving DecidableEq
instance : Enc Grade4 where
 sz := 4
 cells p := [.string p.name, .int .i64 p.dens, .int .i64 p.yld, tree 1 p.gauges.length (encL p.gauges)]
 len _ := rfl
 nl p := by intro v hv; simp at hv; rcases hv with rfl | rfl | rfl | rfl <;> rfl
instance : Enc Sect4 where
 sz := 4
 cells p := [.string p.name, .int .i64 p.area, .int .i64 p.height, .int .i64 p.stock]
 len _ := rfl
 nl p := by intro v hv; simp at hv; rcases hv with rfl | rfl | rfl | rfl <;> rfl
def matsC (m : Mats) : List Value := [tree 4 m.grades.length (encL m.grades), tree 4 m.sects.length (encL m.sects)]
abbrev matsV (m : Mats) : Value := .agg (matsC m).toArray
instance : Enc Mats where
 sz := 2
 cells := matsC
 len _ := rfl
 nl p := by intro v hv; simp [matsC] at hv; rcases hv with rfl | rfl <;> rfl
structure InSect (p : Sect4) : Prop where
 name : p.name.size ≤ maxLen
 area : In64 p.area
 height : In64 p.height
 stock : In64 p.stock
variable {w : World}
theorem opens_sect : Opens Tryz.prog w 94 Sect4 InSect := fun H enc base spare held fuel cs x h => by
 obtain ⟨xs, n, _, _, hlen, hxs, hf⟩ := DataW.trod_struct Tryz.underlying94 h
 have hc : Tryz.prog.cellsOf 94 = 4 := by kernel_rfl
 obtain ⟨b0, k0, v0⟩ := field_open (opens_string Tryz.underlying9) (hf 0 _ rfl) (by rw [hxs]; decide)
 obtain ⟨b1, k1, v1⟩ := field_open (opens_int Tryz.underlying3) (hf 1 _ rfl) (by rw [hxs]; decide)
 obtain ⟨b2, k2, v2⟩ := field_open (opens_int Tryz.underlying3) (hf 2 _ rfl) (by rw [hxs]; decide)
 obtain ⟨b3, k3, v3⟩ := field_open (opens_int Tryz.underlying3) (hf 3 _ rfl) (by rw [hxs]; decide)
 exact ⟨⟨b0, b1, b2, b3⟩, ⟨k0, k1, k2, k3⟩, v0.next (v1.next (v2.next (v3.next (VRC.done (n := 4) (hlen.trans hc)))))⟩
end Go.Proofs.YtngginofamlkkaaGreatDoor

noncomputable section
namespace Go.Proofs.YtngginofamlkkaaGreatDoor
open Go Go.RowKit
set_option maxRecDepth 100000
set_option maxHeartbeats 8000000
abbrev gradeV (g : Grade4) : Value := .agg #[.string g.name, .int .i64 g.dens, .int .i64 g.yld, tree 1 g.gauges.length (encL g.gauges)]
abbrev sectV (s : Sect4) : Value := .agg #[.string s.name, .int .i64 s.area, .int .i64 s.height, .int .i64 s.stock]
def grade0 : Grade4 := ⟨⟨#[]⟩, 0, 0, []⟩
def sect0 : Sect4 := ⟨⟨#[]⟩, 0, 0, 0⟩
structure First {α : Type} (l : List α) (p : α → Prop) (i : Int) : Prop where
 no : i < 0 → ∀ a ∈ l, ¬ p a
 yes : 0 ≤ i → ∃ k, ∃ hk : k < l.length, i = (k : Int) ∧ p l[k] ∧ ∀ j (hj : j < l.length), j < k → ¬ p l[j]
abbrev fnG : Value := .func (.func 135) #[] #[.pointer (some ⟨0, 0, none⟩)]
abbrev fnS : Value := .func (.func 138) #[] #[.pointer (some ⟨0, 0, none⟩)]
def c_idxG (args : List Value) (conts : List (List Value)) (Post : Out → List (List Value) → Prop) : Prop := ∃ (l : List Grade4) (s : ByteArray), args = [tree 4 l.length (encL l), fnG] ∧ conts = [[.string s]] ∧ Short l ∧ ∀ i : Int, First l (fun g => g.name = s) i → Post (.ret (.int .i64 i)) [[.string s]]
def c_idxS (args : List Value) (conts : List (List Value)) (Post : Out → List (List Value) → Prop) : Prop := ∃ (l : List Sect4) (s : ByteArray), args = [tree 4 l.length (encL l), fnS] ∧ conts = [[.string s]] ∧ Short l ∧ ∀ i : Int, First l (fun g => g.name = s) i → Post (.ret (.int .i64 i)) [[.string s]]
def callIG : PCall := inlP Tryz.prog [135, 138] (ofV noCall) 2
theorem e_idxG (n : Nat) (s : ByteArray) (A : Array Value) (H : HT) (Post : PX) : vcX Tryz.prog callIG 134 [(2, [0, 1, 7, 8])] [[.string s]] [tree 4 n A, fnG] H Post = (T4 (True ∧ (True ∧ True) ∧ H (lpC Tryz.prog 134 2) (lpK Tryz.prog 134 2) (stV [(0, some (tree 4 n A)), (1, some (Value.func (Fn.func 135) #[] #[pt 0])), (7, some (vi (↑n : Int))), (8, some (vi 0))] [(0, some (AObj.cells [vs s] true))] 1))) := by kernel_rfl
theorem l_idxG (n : Nat) (s : ByteArray) (k : Int) (A : Array Value) (H : HT) (Post : PX) : vcLX Tryz.prog callIG 134 [tree 4 n A, fnG] [(2, [0, 1, 7, 8])] 1 2 (stV [(0, some (tree 4 n A)), (1, some fnG), (7, some (.int .i64 n)), (8, some (.int .i64 k))] [(0, some (.cells [.string s] true))] 1) H Post = (True ∧ pIf (decide (k < (↑n : Int))) (T4 (True ∧ (0 ≤ k ∧ k < (↑n : Int)) ∧ (cellAt A (Int.toNat k) 0 = vs (toS (cellAt A (Int.toNat k) 0)) ∧ cellAt A (Int.toNat k) 1 = vi (toI (cellAt A (Int.toNat k) 1)) ∧ cellAt A (Int.toNat k) 2 = vi (toI (cellAt A (Int.toNat k) 2)) ∧ cellAt A (Int.toNat k) 3 = tree 1 (toN (cellAt A (Int.toNat k) 3)) (toE (cellAt A (Int.toNat k) 3)) ∧ True) ∧ T4 (T2 (pIf (decide (toS (cellAt A (Int.toNat k) 0) = s)) (T2 (True ∧ (((True ∧ True) ∧ True) ∧ True) ∧ true = true ∧ Post (Out.ret (vi k)) [[vs s]])) (T4 ((True ∧ True) ∧ H (lpC Tryz.prog 134 2) (lpK Tryz.prog 134 2) (stV [(0, some (tree 4 n A)), (1, some (Value.func (Fn.func 135) #[] #[pt 0])), (7, some (vi (↑n : Int))), (8, some (vi (IntKind.wrap IntKind.i64 (k + 1))))] [(0, some (AObj.cells [vs s] true))] 1))))))) (True ∧ (((True ∧ True) ∧ True) ∧ True) ∧ true = true ∧ Post (Out.ret (vi (-1))) [[vs s]])) := by kernel_rfl
theorem e_idxS (n : Nat) (s : ByteArray) (A : Array Value) (H : HT) (Post : PX) : vcX Tryz.prog callIG 137 [(2, [0, 1, 7, 8])] [[.string s]] [tree 4 n A, fnS] H Post = (T4 (True ∧ (True ∧ True) ∧ H (lpC Tryz.prog 137 2) (lpK Tryz.prog 137 2) (stV [(0, some (tree 4 n A)), (1, some (Value.func (Fn.func 138) #[] #[pt 0])), (7, some (vi (↑n : Int))), (8, some (vi 0))] [(0, some (AObj.cells [vs s] true))] 1))) := by kernel_rfl
theorem l_idxS (n : Nat) (s : ByteArray) (k : Int) (A : Array Value) (H : HT) (Post : PX) : vcLX Tryz.prog callIG 137 [tree 4 n A, fnS] [(2, [0, 1, 7, 8])] 1 2 (stV [(0, some (tree 4 n A)), (1, some fnS), (7, some (.int .i64 n)), (8, some (.int .i64 k))] [(0, some (.cells [.string s] true))] 1) H Post = (True ∧ pIf (decide (k < (↑n : Int))) (T4 (True ∧ (0 ≤ k ∧ k < (↑n : Int)) ∧ (cellAt A (Int.toNat k) 0 = vs (toS (cellAt A (Int.toNat k) 0)) ∧ cellAt A (Int.toNat k) 1 = vi (toI (cellAt A (Int.toNat k) 1)) ∧ cellAt A (Int.toNat k) 2 = vi (toI (cellAt A (Int.toNat k) 2)) ∧ cellAt A (Int.toNat k) 3 = vi (toI (cellAt A (Int.toNat k) 3)) ∧ True) ∧ T4 (T2 (pIf (decide (toS (cellAt A (Int.toNat k) 0) = s)) (T2 (True ∧ (((True ∧ True) ∧ True) ∧ True) ∧ true = true ∧ Post (Out.ret (vi k)) [[vs s]])) (T4 ((True ∧ True) ∧ H (lpC Tryz.prog 137 2) (lpK Tryz.prog 137 2) (stV [(0, some (tree 4 n A)), (1, some (Value.func (Fn.func 138) #[] #[pt 0])), (7, some (vi (↑n : Int))), (8, some (vi (IntKind.wrap IntKind.i64 (k + 1))))] [(0, some (AObj.cells [vs s] true))] 1))))))) (True ∧ (((True ∧ True) ∧ True) ∧ True) ∧ true = true ∧ Post (Out.ret (vi (-1))) [[vs s]])) := by kernel_rfl
def findG (m : Mats) (s : ByteArray) : Option Grade4 := m.grades.find? fun g => decide (g.name = s)
def findS (m : Mats) (s : ByteArray) : Option Sect4 := m.sects.find? fun g => decide (g.name = s)
structure FewM (m : Mats) : Prop where
 gr : Short m.grades
 se : Short m.sects
 ga : ∀ g ∈ m.grades, g.gauges.length ≤ 17592186044416
def gradeOf (m : Mats) (s : ByteArray) : Grade4 := (findG m s).getD grade0
def sectOf (m : Mats) (s : ByteArray) : Sect4 := (findS m s).getD sect0
def hasG (m : Mats) (s : ByteArray) : Prop := (findG m s).isSome = true
def hasS (m : Mats) (s : ByteArray) : Prop := (findS m s).isSome = true
instance (m : Mats) (s : ByteArray) : Decidable (hasG m s) := by unfold hasG; infer_instance
instance (m : Mats) (s : ByteArray) : Decidable (hasS m s) := by unfold hasS; infer_instance
def c_Grade (args : List Value) (Post : Value → Prop) : Prop := ∃ (m : Mats) (s : ByteArray), args = [matsV m, .string s] ∧ FewM m ∧ Post (.tuple #[gradeV (gradeOf m s), .bool (decide (hasG m s))])
def c_Sect (args : List Value) (Post : Value → Prop) : Prop := ∃ (m : Mats) (s : ByteArray), args = [matsV m, .string s] ∧ FewM m ∧ Post (.tuple #[sectV (sectOf m s), .bool (decide (hasS m s))])
def rolled (m : Mats) (s : ByteArray) (t : Int) : Prop := hasG m s ∧ t ∈ (gradeOf m s).gauges
instance (m : Mats) (s : ByteArray) (t : Int) : Decidable (rolled m s t) := by unfold rolled; infer_instance
def c_Rolled (args : List Value) (Post : Value → Prop) : Prop := ∃ (m : Mats) (s : ByteArray) (t : Int), args = [matsV m, .string s, .int .i64 t] ∧ FewM m ∧ Post (.bool (decide (rolled m s t)))
def c_idxI (args : List Value) (Post : Value → Prop) : Prop := ∃ (l : List Int) (v : Int), args = [tree 1 l.length (encL l), .int .i64 v] ∧ Short l ∧ ∀ i : Int, (0 ≤ i ↔ v ∈ l) → Post (.int .i64 i)
def c_conI (args : List Value) (Post : Value → Prop) : Prop := ∃ (l : List Int) (v : Int), args = [tree 1 l.length (encL l), .int .i64 v] ∧ Short l ∧ Post (.bool (decide (v ∈ l)))
def callGr : PCall := xtabCall [⟨134, c_idxG⟩, ⟨137, c_idxS⟩] (ofV (tabCall [⟨136, c_clone⟩] noCall))
theorem e_Grade (n m : Nat) (s : ByteArray) (A B : Array Value) (H : HT) (Post : PX) : vcX Tryz.prog callGr 62 [] [] [.agg #[tree 4 n A, tree 4 m B], .string s] H Post = (T4 (T2 (True ∧ ∃ (l : List Grade4), ∃ (s_1 : ByteArray), eqL [tree 4 n A, Value.func (Fn.func 135) #[] #[pt 0]] [tree 4 l.length (encL l), Value.func (Fn.func 135) #[] #[pt 0]] ∧ [[vs s]] = [[vs s_1]] ∧ Short l ∧ ∀ (i : Int), First l (fun (g : Grade4) => Grade4.name g = s_1) i → 1 = 1 ∧ T2 (True ∧ pIf (decide (i < 0)) (True ∧ 4 ≤ 4 ∧ True ∧ (True ∧ (T4 (True)) ∧ True ∧ True) ∧ true = true ∧ Post (Out.ret (Value.tuple #[Value.agg #[vz, vi 0, vi 0, tree 1 0 #[]], vb false])) []) (T2 (True ∧ (0 ≤ i ∧ i < (↑n : Int)) ∧ (cellAt A (Int.toNat i) 0 = vs (toS (cellAt A (Int.toNat i) 0)) ∧ cellAt A (Int.toNat i) 1 = vi (toI (cellAt A (Int.toNat i) 1)) ∧ cellAt A (Int.toNat i) 2 = vi (toI (cellAt A (Int.toNat i) 2)) ∧ cellAt A (Int.toNat i) 3 = tree 1 (toN (cellAt A (Int.toNat i) 3)) (toE (cellAt A (Int.toNat i) 3)) ∧ True) ∧ 4 ≤ 4 ∧ T2 (∃ (l : List Int), eqL [tree 1 (toN (cellAt A (Int.toNat i) 3)) (toE (cellAt A (Int.toNat i) 3))] [tree 1 l.length (encL l)] ∧ List.length l ≤ 17592186044416 ∧ True ∧ 4 ≤ 4 ∧ True ∧ 4 ≤ 4 ∧ True ∧ (True ∧ (T4 (True)) ∧ True ∧ True) ∧ true = true ∧ Post (Out.ret (Value.tuple #[Value.agg #[vs (toS (cellAt A (Int.toNat i) 0)), vi (toI (cellAt A (Int.toNat i) 1)), vi (toI (cellAt A (Int.toNat i) 2)), tree 1 l.length (encL l)], vb true])) []))))))) := by kernel_rfl
theorem e_Sect (n m : Nat) (s : ByteArray) (A B : Array Value) (H : HT) (Post : PX) : vcX Tryz.prog callGr 63 [] [] [.agg #[tree 4 n A, tree 4 m B], .string s] H Post = (T4 (T2 (True ∧ ∃ (l : List Sect4), ∃ (s_1 : ByteArray), eqL [tree 4 m B, Value.func (Fn.func 138) #[] #[pt 0]] [tree 4 l.length (encL l), Value.func (Fn.func 138) #[] #[pt 0]] ∧ [[vs s]] = [[vs s_1]] ∧ Short l ∧ ∀ (i : Int), First l (fun (g : Sect4) => Sect4.name g = s_1) i → 1 = 1 ∧ T2 (True ∧ pIf (decide (i < 0)) (True ∧ 4 ≤ 4 ∧ True ∧ (True ∧ (T4 (True)) ∧ True ∧ True) ∧ true = true ∧ Post (Out.ret (Value.tuple #[Value.agg #[vz, vi 0, vi 0, vi 0], vb false])) []) (T2 (True ∧ (0 ≤ i ∧ i < (↑m : Int)) ∧ (cellAt B (Int.toNat i) 0 = vs (toS (cellAt B (Int.toNat i) 0)) ∧ cellAt B (Int.toNat i) 1 = vi (toI (cellAt B (Int.toNat i) 1)) ∧ cellAt B (Int.toNat i) 2 = vi (toI (cellAt B (Int.toNat i) 2)) ∧ cellAt B (Int.toNat i) 3 = vi (toI (cellAt B (Int.toNat i) 3)) ∧ True) ∧ 4 ≤ 4 ∧ True ∧ (True ∧ (T4 (True)) ∧ True ∧ True) ∧ true = true ∧ Post (Out.ret (Value.tuple #[Value.agg #[vs (toS (cellAt B (Int.toNat i) 0)), vi (toI (cellAt B (Int.toNat i) 1)), vi (toI (cellAt B (Int.toNat i) 2)), vi (toI (cellAt B (Int.toNat i) 3))], vb true])) [])))))) := by kernel_rfl
theorem e_idxI (n : Nat) (v : Int) (A : Array Value) (H : HT) (Post : PV) : vcP Tryz.prog noCall 227 [(2, [0, 1, 7, 8])] [tree 1 n A, .int .i64 v] H Post = (T4 (T2 (H (lpC Tryz.prog 227 2) (lpK Tryz.prog 227 2) (stV [(0, some (tree 1 n A)), (1, some (vi v)), (7, some (vi (↑n : Int))), (8, some (vi 0))] [] 0)))) := by kernel_rfl
theorem l_idxI (n : Nat) (v k : Int) (A : Array Value) (H : HT) (Post : PV) : vcLP Tryz.prog noCall 227 [tree 1 n A, .int .i64 v] [(2, [0, 1, 7, 8])] 2 (stV [(0, some (tree 1 n A)), (1, some (.int .i64 v)), (7, some (.int .i64 n)), (8, some (.int .i64 k))] [] 0) H Post = (True ∧ pIf (decide (k < (↑n : Int))) (T4 (True ∧ (0 ≤ k ∧ k < (↑n : Int)) ∧ cellAt A (Int.toNat k) 0 = vi (toI (cellAt A (Int.toNat k) 0)) ∧ True ∧ pIf (decide (v = toI (cellAt A (Int.toNat k) 0))) (T2 (True ∧ Post (vi k))) (T4 (H (lpC Tryz.prog 227 2) (lpK Tryz.prog 227 2) (stV [(0, some (tree 1 n A)), (1, some (vi v)), (7, some (vi (↑n : Int))), (8, some (vi (IntKind.wrap IntKind.i64 (k + 1))))] [] 0))))) (T2 (Post (vi (-1))))) := by kernel_rfl
theorem e_conI (n : Nat) (v : Int) (A : Array Value) (H : HT) (Post : PV) : vcP Tryz.prog (tabCall [⟨227, c_idxI⟩] noCall) 194 [] [tree 1 n A, .int .i64 v] H Post = (T2 (True ∧ ∃ (l : List Int), ∃ (v_1 : Int), eqL [tree 1 n A, vi v] [tree 1 l.length (encL l), vi v_1] ∧ Short l ∧ ∀ (i : Int), (0 ≤ i ↔ v_1 ∈ l) → True ∧ pIf (decide (i ≥ 0)) (T2 (Post (vb true))) (T2 (Post (vb false))))) := by kernel_rfl
theorem e_Rolled (n m : Nat) (s : ByteArray) (t : Int) (A B : Array Value) (H : HT) (Post : PV) : vcP Tryz.prog (tabCall [⟨62, c_Grade⟩, ⟨194, c_conI⟩] noCall) 119 [] [.agg #[tree 4 n A, tree 4 m B], .string s, .int .i64 t] H Post = (T4 (∃ (m_1 : Mats), ∃ (s_1 : ByteArray), eqL [Value.agg #[tree 4 n A, tree 4 m B], vs s] [matsV m_1, vs s_1] ∧ FewM m_1 ∧ T2 (True ∧ pIf (decide (hasG m_1 s_1)) (True ∧ 4 ≤ 4 ∧ T4 (T2 (∃ (l : List Int), ∃ (v : Int), eqL [tree 1 (List.length (Grade4.gauges (gradeOf m_1 s_1))) (encL (Grade4.gauges (gradeOf m_1 s_1))), vi t] [tree 1 l.length (encL l), vi v] ∧ Short l ∧ pIf (decide (v ∈ l)) (T2 (True ∧ Post (vb true))) (T2 (True ∧ Post (vb false)))))) (True ∧ 4 ≤ 4 ∧ T4 (T2 (Post (vb false))))))) := by kernel_rfl
theorem cell_grade {l : List Grade4} {i : Nat} (h : i < l.length) : cellAt (encL l) i 0 = .string l[i].name ∧ cellAt (encL l) i 1 = .int .i64 l[i].dens ∧ cellAt (encL l) i 2 = .int .i64 l[i].yld ∧ cellAt (encL l) i 3 = tree 1 l[i].gauges.length (encL l[i].gauges) := by
 rw [cellAt_encL' h, cellAt_encL' h, cellAt_encL' h, cellAt_encL' h]
 exact ⟨rfl, rfl, rfl, rfl⟩
theorem cell_sect {l : List Sect4} {i : Nat} (h : i < l.length) : cellAt (encL l) i 0 = .string l[i].name ∧ cellAt (encL l) i 1 = .int .i64 l[i].area ∧ cellAt (encL l) i 2 = .int .i64 l[i].height ∧ cellAt (encL l) i 3 = .int .i64 l[i].stock := by
 rw [cellAt_encL' h, cellAt_encL' h, cellAt_encL' h, cellAt_encL' h]
 exact ⟨rfl, rfl, rfl, rfl⟩
theorem cell_gau {l : List Int} {i : Nat} (h : i < l.length) : cellAt (encL l) i 0 = .int .i64 l[i] := by
 rw [cellAt_encL' h]
 rfl
theorem First.none {α : Type} {l : List α} {p : α → Prop} [DecidablePred p] {i : Int} (h : First l p i) (hi : i < 0) : l.find? (fun a => decide (p a)) = Option.none := by
 rw [List.find?_eq_none]
 intro a ha
 have := h.no hi a ha
 simpa using this
theorem find_at {α : Type} {l : List α} {p : α → Prop} [DecidablePred p] {k : Nat} (hk : k < l.length) (hp : p l[k]) (hb : ∀ j (hj : j < l.length), j < k → ¬ p l[j]) : l.find? (fun a => decide (p a)) = some l[k] := by
 rw [List.find?_eq_some_iff_getElem]
 exact ⟨by simpa using hp, k, hk, rfl, fun j hj => by simpa using hb j (by omega) hj⟩
theorem callIG_ok : PCallOk Tryz.prog callIG := inlP_ok mixed (ofV_ok noCall_ok) 2
theorem ok_idxG : XEntOk Tryz.prog ⟨134, c_idxG⟩ := by
 rintro args conts Post ⟨l, s, rfl, rfl, hl, h⟩
 refine spec_X (conts := [[.string s]]) callIG_ok mixed (by kernel_rfl) (by kernel_rfl) _ (e_idxG l.length s (encL l) _ _) ?_
 simp only [true_and]
 refine down (n := l.length) (p := fun k => (∀ i (hi : i < l.length), i < k → ¬ l[i].name = s) → OkX Tryz.prog 134 [tree 4 l.length (encL l), fnG] 1 Post (lpC Tryz.prog 134 2) (lpK Tryz.prog 134 2) (stV [(0, some (tree 4 l.length (encL l))), (1, some fnG), (7, some (.int .i64 l.length)), (8, some (.int .i64 k))] [(0, some (.cells [.string s] true))] 1)) (fun hall => ?_) (fun k h1 ih hall => ?_) (fun i hi h0 => by omega)
 ·refine ok_X callIG_ok mixed _ (l_idxG l.length s l.length (encL l) _ _) ?_
  simp only [true_and]
  refine ifD (fun hlt => by omega) (fun _ => h (-1) ⟨fun _ a ha => ?_, fun h => by omega⟩)
  obtain ⟨i, hi, rfl⟩ := List.mem_iff_getElem.1 ha
  exact hall i hi hi
 ·refine ok_X callIG_ok mixed _ (l_idxG l.length s k (encL l) _ _) ?_
  have hk : ((k : Nat) : Int).toNat = k := Int.toNat_natCast k
  obtain ⟨c0, c1, c2, c3⟩ := cell_grade h1
  simp only [true_and, and_true, hk, c0, c1, c2, c3, toI_int, toS_string, toN_tree, toE_tree, wrapSucc (show k < 2 ^ 62 by omega)]
  refine ifD (fun _ => ⟨⟨by omega, by omega⟩, ifD (fun hn => h k ⟨fun h => by omega, fun _ => ⟨k, h1, rfl, hn, hall⟩⟩) (fun hn => ih fun i hi hik => ?_)⟩) (fun h' => by omega)
  rcases Nat.lt_or_ge i k with h' | h'
  ·exact hall i hi h'
  ·have : i = k := by omega
   subst this
   exact hn
theorem ok_idxS : XEntOk Tryz.prog ⟨137, c_idxS⟩ := by
 rintro args conts Post ⟨l, s, rfl, rfl, hl, h⟩
 refine spec_X (conts := [[.string s]]) callIG_ok mixed (by kernel_rfl) (by kernel_rfl) _ (e_idxS l.length s (encL l) _ _) ?_
 simp only [true_and]
 refine down (n := l.length) (p := fun k => (∀ i (hi : i < l.length), i < k → ¬ l[i].name = s) → OkX Tryz.prog 137 [tree 4 l.length (encL l), fnS] 1 Post (lpC Tryz.prog 137 2) (lpK Tryz.prog 137 2) (stV [(0, some (tree 4 l.length (encL l))), (1, some fnS), (7, some (.int .i64 l.length)), (8, some (.int .i64 k))] [(0, some (.cells [.string s] true))] 1)) (fun hall => ?_) (fun k h1 ih hall => ?_) (fun i hi h0 => by omega)
 ·refine ok_X callIG_ok mixed _ (l_idxS l.length s l.length (encL l) _ _) ?_
  simp only [true_and]
  refine ifD (fun hlt => by omega) (fun _ => h (-1) ⟨fun _ a ha => ?_, fun h => by omega⟩)
  obtain ⟨i, hi, rfl⟩ := List.mem_iff_getElem.1 ha
  exact hall i hi hi
 ·refine ok_X callIG_ok mixed _ (l_idxS l.length s k (encL l) _ _) ?_
  have hk : ((k : Nat) : Int).toNat = k := Int.toNat_natCast k
  obtain ⟨c0, c1, c2, c3⟩ := cell_sect h1
  simp only [true_and, and_true, hk, c0, c1, c2, c3, toI_int, toS_string, toN_tree, toE_tree, wrapSucc (show k < 2 ^ 62 by omega)]
  refine ifD (fun _ => ⟨⟨by omega, by omega⟩, ifD (fun hn => h k ⟨fun h => by omega, fun _ => ⟨k, h1, rfl, hn, hall⟩⟩) (fun hn => ih fun i hi hik => ?_)⟩) (fun h' => by omega)
  rcases Nat.lt_or_ge i k with h' | h'
  ·exact hall i hi h'
  ·have : i = k := by omega
   subst this
   exact hn
theorem callGr_ok : PCallOk Tryz.prog callGr := xtabCall_ok (by
 intro e he
 simp only [List.mem_cons, List.not_mem_nil, or_false] at he
 rcases he with rfl | rfl
 ·exact ok_idxG
 ·exact ok_idxS) (ofV_ok (tabCall_ok (by
 intro e he
 simp only [List.mem_cons, List.not_mem_nil, or_false] at he
 subst he
 exact ok_clone) noCall_ok))
theorem ok_Grade : EntOk Tryz.prog ⟨62, c_Grade⟩ := by
 rintro args Post ⟨m, s, rfl, hf, h⟩
 refine pureX ?_
 refine spec_X (conts := []) callGr_ok mixed (by kernel_rfl) (by kernel_rfl) [] (e_Grade m.grades.length m.sects.length s (encL m.grades) (encL m.sects) _ _) ?_
 simp only [true_and, and_true]
 refine ⟨m.grades, s, rfl, rfl, hf.gr, fun i hi => ifD (fun h0 => ⟨by decide, ?_⟩) (fun h0 => ?_)⟩
 ·have e : findG m s = none := hi.none h0
  have e1 : gradeOf m s = grade0 := by unfold gradeOf; rw [e]; rfl
  have e2 : ¬ hasG m s := by unfold hasG; rw [e]; decide
  rw [e1, decide_eq_false e2] at h
  exact h
 ·obtain ⟨k, hk, rfl, hp, hb⟩ := hi.yes (by omega)
  have e : findG m s = some m.grades[k] := find_at hk hp hb
  have e1 : gradeOf m s = m.grades[k] := by unfold gradeOf; rw [e]; rfl
  have e2 : hasG m s := by unfold hasG; rw [e]; rfl
  rw [e1, decide_eq_true e2] at h
  have hk' : ((k : Nat) : Int).toNat = k := Int.toNat_natCast k
  obtain ⟨c0, c1, c2, c3⟩ := cell_grade hk
  simp only [hk', c0, c1, c2, c3, toI_int, toS_string, toN_tree, toE_tree, true_and, and_true]
  have := hf.ga _ (List.getElem_mem hk)
  refine ⟨⟨by omega, by omega⟩, by decide, m.grades[k].gauges, rfl, by omega, by decide, by decide, ?_⟩
  exact h
theorem ok_Sect : EntOk Tryz.prog ⟨63, c_Sect⟩ := by
 rintro args Post ⟨m, s, rfl, hf, h⟩
 refine pureX ?_
 refine spec_X (conts := []) callGr_ok mixed (by kernel_rfl) (by kernel_rfl) [] (e_Sect m.grades.length m.sects.length s (encL m.grades) (encL m.sects) _ _) ?_
 simp only [true_and, and_true]
 refine ⟨m.sects, s, rfl, rfl, hf.se, fun i hi => ifD (fun h0 => ⟨by decide, ?_⟩) (fun h0 => ?_)⟩
 ·have e : findS m s = none := hi.none h0
  have e1 : sectOf m s = sect0 := by unfold sectOf; rw [e]; rfl
  have e2 : ¬ hasS m s := by unfold hasS; rw [e]; decide
  rw [e1, decide_eq_false e2] at h
  exact h
 ·obtain ⟨k, hk, rfl, hp, hb⟩ := hi.yes (by omega)
  have e : findS m s = some m.sects[k] := find_at hk hp hb
  have e1 : sectOf m s = m.sects[k] := by unfold sectOf; rw [e]; rfl
  have e2 : hasS m s := by unfold hasS; rw [e]; rfl
  rw [e1, decide_eq_true e2] at h
  have hk' : ((k : Nat) : Int).toNat = k := Int.toNat_natCast k
  obtain ⟨c0, c1, c2, c3⟩ := cell_sect hk
  simp only [hk', c0, c1, c2, c3, toI_int, toS_string, true_and, and_true]
  exact ⟨⟨by omega, by omega⟩, by decide, h⟩
theorem ok_idxI : EntOk Tryz.prog ⟨227, c_idxI⟩ := by
 rintro args Post ⟨l, v, rfl, hl, h⟩
 refine pure_P noCall_ok mixed (by kernel_rfl) (by kernel_rfl) _ (e_idxI l.length v (encL l) _ _) ?_
 simp only [true_and]
 refine down (n := l.length) (p := fun k => (∀ i (hi : i < l.length), i < k → ¬ v = l[i]) → OkP 227 [tree 1 l.length (encL l), .int .i64 v] 2 Post (stV [(0, some (tree 1 l.length (encL l))), (1, some (.int .i64 v)), (7, some (.int .i64 l.length)), (8, some (.int .i64 k))] [] 0)) (fun hall => ?_) (fun k h1 ih hall => ?_) (fun i hi h0 => by omega)
 ·refine ok_P noCall_ok mixed _ (l_idxI l.length v l.length (encL l) _ _) ?_
  simp only [true_and]
  refine ifD (fun hlt => by omega) (fun _ => h (-1) ⟨fun h => by omega, fun hv => ?_⟩)
  obtain ⟨i, hi, e⟩ := List.mem_iff_getElem.1 hv
  exact absurd e.symm (hall i hi hi)
 ·refine ok_P noCall_ok mixed _ (l_idxI l.length v k (encL l) _ _) ?_
  have hk : ((k : Nat) : Int).toNat = k := Int.toNat_natCast k
  simp only [true_and, and_true, hk, cell_gau h1, toI_int, wrapSucc (show k < 2 ^ 62 by omega)]
  refine ifD (fun _ => ⟨⟨by omega, by omega⟩, ifD (fun hn => h k ⟨fun _ => by rw [hn]; exact List.getElem_mem h1, fun _ => by omega⟩) (fun hn => ih fun i hi hik => ?_)⟩) (fun h' => by omega)
  rcases Nat.lt_or_ge i k with h' | h'
  ·exact hall i hi h'
  ·have : i = k := by omega
   subst this
   exact hn
theorem ok_conI : EntOk Tryz.prog ⟨194, c_conI⟩ := by
 rintro args Post ⟨l, v, rfl, hl, h⟩
 refine pure_P (tabCall_ok (by
  intro e he
  simp only [List.mem_cons, List.not_mem_nil, or_false] at he
  subst he
  exact ok_idxI) noCall_ok) mixed (by kernel_rfl) (by kernel_rfl) _ (e_conI l.length v (encL l) _ _) ?_
 simp only [true_and]
 refine ⟨l, v, rfl, hl, fun i hi => ifD (fun h1 => ?_) (fun h1 => ?_)⟩
 ·rwa [decide_eq_true (hi.1 h1)] at h
 ·rwa [decide_eq_false (fun hp => h1 (hi.2 hp))] at h
theorem gauge_few {m : Mats} (hf : FewM m) (s : ByteArray) : (gradeOf m s).gauges.length ≤ 17592186044416 := by
 unfold gradeOf findG
 cases h : m.grades.find? fun g => decide (g.name = s) with
 | none => exact Nat.zero_le _
 | some g => exact hf.ga g (List.mem_of_find?_eq_some h)
theorem ok_Rolled : EntOk Tryz.prog ⟨119, c_Rolled⟩ := by
 rintro args Post ⟨m, s, t, rfl, hf, h⟩
 refine pure_P (tabCall_ok (by
  intro e he
  simp only [List.mem_cons, List.not_mem_nil, or_false] at he
  rcases he with rfl | rfl
  ·exact ok_Grade
  ·exact ok_conI) noCall_ok) mixed (by kernel_rfl) (by kernel_rfl) _ (e_Rolled m.grades.length m.sects.length s t (encL m.grades) (encL m.sects) _ _) ?_
 simp only [true_and]
 have hg := gauge_few hf s
 refine ⟨m, s, rfl, hf, ifD (fun h1 => ⟨by decide, (gradeOf m s).gauges, t, rfl, show _ < _ by omega, ifD (fun h2 => ?_) (fun h2 => ?_)⟩) (fun h1 => ⟨by decide, ?_⟩)⟩
 ·rwa [decide_eq_true (show rolled m s t from ⟨h1, h2⟩)] at h
 ·rwa [decide_eq_false (fun hp : rolled m s t => h2 hp.2)] at h
 ·rwa [decide_eq_false (fun hp : rolled m s t => h1 hp.1)] at h
abbrev vecV (v : Vec3) : Value := .agg #[.int .i64 v.x, .int .i64 v.y, .int .i64 v.z]
def inV (v : Vec3) (n : Int) : Prop := (-n ≤ v.x ∧ v.x ≤ n) ∧ (-n ≤ v.y ∧ v.y ≤ n) ∧ (-n ≤ v.z ∧ v.z ≤ n)
instance (v : Vec3) (n : Int) : Decidable (inV v n) := by unfold inV; infer_instance
structure VLim (v : Vec3) : Prop where
 h : inV v 1099511627776
structure Lim (n : Int) : Prop where
 h : 0 ≤ n ∧ n ≤ 1099511627776
def c_vin (args : List Value) (Post : Value → Prop) : Prop := ∃ (v : Vec3) (n : Int), args = [vecV v, .int .i64 n] ∧ Lim n ∧ Post (.bool (decide (inV v n)))
def turnNo (k : Int) : Int := if k < 0 ∨ 24 ≤ k then 0 else k
def c_num (args : List Value) (Post : Value → Prop) : Prop := match args with
 | [.int .i64 k] => Post (.int .i64 (turnNo k))
 | _ => False
def quart : Nat → Vec3 → Vec3
 | 0, v => v
 | n + 1, v => ⟨-(quart n v).y, (quart n v).x, (quart n v).z⟩
def tiltV (v : Vec3) (n : Int) : Vec3 := if n = 1 then ⟨v.x, -v.z, v.y⟩ else if n = 2 then ⟨v.x, -v.y, -v.z⟩ else if n = 3 then ⟨v.x, v.z, -v.y⟩ else if n = 4 then ⟨v.z, v.y, -v.x⟩ else if n = 5 then ⟨-v.z, v.y, v.x⟩ else v
def turnV (v : Vec3) (k : Int) : Vec3 := tiltV (quart ((turnNo k).tmod 4).toNat v) ((turnNo k).tdiv 4)
def c_turned (args : List Value) (Post : Value → Prop) : Prop := ∃ (v : Vec3) (k : Int), args = [vecV v, .int .i64 k] ∧ VLim v ∧ Post (vecV (turnV v k))
def validP (at_ : Vec3) (k : Int) : Prop := inV at_ 524288 ∧ k = turnNo k
instance (at_ : Vec3) (k : Int) : Decidable (validP at_ k) := by unfold validP; infer_instance
abbrev placeV (at_ : Vec3) (k : Int) : Value := .agg #[.int .i64 at_.x, .int .i64 at_.y, .int .i64 at_.z, .int .i64 k]
def c_vvalid (args : List Value) (Post : Value → Prop) : Prop := ∃ (a : Vec3) (k : Int), args = [placeV a k] ∧ Post (.bool (decide (validP a k)))
def applyV (a : Vec3) (k : Int) (v : Vec3) : Vec3 := if ¬ inV a 1099511627776 ∨ ¬ inV v 1099511627776 then ⟨0, 0, 0⟩ else ⟨(turnV v k).x + a.x, (turnV v k).y + a.y, (turnV v k).z + a.z⟩
def c_vapply (args : List Value) (Post : Value → Prop) : Prop := ∃ (a : Vec3) (k : Int) (v : Vec3), args = [placeV a k, vecV v] ∧ Post (vecV (applyV a k v))
theorem e_vin (v : Vec3) (n : Int) (H : HT) (Post : PV) : vcP Tryz.prog noCall 124 [] [vecV v, .int .i64 n] H Post = (T16 (True ∧ pIf (decide (v.x < IntKind.wrap IntKind.i64 (0 - n))) (T4 (Post (vb false))) (T4 (pIf (decide (v.x > n)) (T2 (True ∧ Post (vb false))) (T8 (T2 (pIf (decide (v.y < IntKind.wrap IntKind.i64 (0 - n))) (T4 (Post (vb false))) (T4 (pIf (decide (v.y > n)) (T2 (True ∧ Post (vb false))) (T8 (T2 (pIf (decide (v.z < IntKind.wrap IntKind.i64 (0 - n))) (T4 (Post (vb false))) (T4 (pIf (decide (v.z > n)) (T2 (True ∧ Post (vb false))) (T4 (T2 (Post (vb true)))))))))))))))))) := by kernel_rfl
theorem e_num (n : Int) (H : HT) (Post : PV) : vcP Tryz.prog noCall 125 [] [.int .i64 n] H Post = (T2 (True ∧ pIf (decide (n < 0)) (T4 (Post (vi 0))) (T2 (True ∧ pIf (decide (n ≥ 24)) (T2 (True ∧ Post (vi 0))) (T4 (Post (vi n))))))) := by kernel_rfl
def vcTu : VCall := tabCall [⟨125, c_num⟩] noCall
theorem e_turned (v : Vec3) (k : Int) (H : HT) (Post : PV) : vcP Tryz.prog vcTu 146 [(3, [1, 2, 4, 8, 9])] [vecV v, .int .i64 k] H Post = (T4 (True ∧ (toI (vi 4) = 0 → False) ∧ T2 ((T2 (True)) ∧ H (lpC Tryz.prog 146 3) (lpK Tryz.prog 146 3) (stV [(1, some (vi (turnNo k))), (2, some (pt 0)), (4, some (pt 1)), (8, some (vi (Int.tmod (turnNo k) 4))), (9, some (vi 0))] [(0, some (AObj.cells [vi v.x, vi v.y, vi v.z] true)), (1, some (AObj.cells [vi 0, vi 0, vi 0] true))] 2)))) := by kernel_rfl
theorem l_turned (u v : Vec3) (k n m i : Int) (H : HT) (Post : PV) : vcLP Tryz.prog vcTu 146 [vecV u, .int .i64 k] [(3, [1, 2, 4, 8, 9])] 3 (stV [(1, some (.int .i64 n)), (2, some (.pointer (some ⟨0, 0, none⟩))), (4, some (.pointer (some ⟨1, 0, none⟩))), (8, some (.int .i64 m)), (9, some (.int .i64 i))] [(0, some (.cells [.int .i64 v.x, .int .i64 v.y, .int .i64 v.z] true)), (1, some (.cells [.int .i64 0, .int .i64 0, .int .i64 0] true))] 2) H Post = (True ∧ pIf (decide (i < m)) (T8 (3 ≤ 3 ∧ T2 (True ∧ (T2 (True)) ∧ H (lpC Tryz.prog 146 3) (lpK Tryz.prog 146 3) (stV [(1, some (vi n)), (2, some (pt 0)), (4, some (pt 1)), (8, some (vi m)), (9, some (vi (IntKind.wrap IntKind.i64 (i + 1))))] [(0, some (AObj.cells [vi (IntKind.wrap IntKind.i64 (0 - v.y)), vi v.x, vi v.z] true)), (1, some (AObj.cells [vi 0, vi 0, vi 0] true))] 2)))) (True ∧ (toI (vi 4) = 0 → False) ∧ True ∧ pIf (decide (IntKind.wrap IntKind.i64 (Int.tdiv n 4) = 1)) (T8 (True ∧ 3 ≤ 3 ∧ (T2 (True ∧ True)) ∧ Post (Value.agg #[vi v.x, vi (IntKind.wrap IntKind.i64 (0 - v.z)), vi v.y]))) (T2 (pIf (decide (IntKind.wrap IntKind.i64 (Int.tdiv n 4) = 2)) (T8 (T2 (3 ≤ 3 ∧ (T2 (True ∧ True)) ∧ Post (Value.agg #[vi v.x, vi (IntKind.wrap IntKind.i64 (0 - v.y)), vi (IntKind.wrap IntKind.i64 (0 - v.z))])))) (T2 (pIf (decide (IntKind.wrap IntKind.i64 (Int.tdiv n 4) = 3)) (T8 (True ∧ 3 ≤ 3 ∧ (T2 (True ∧ True)) ∧ Post (Value.agg #[vi v.x, vi v.z, vi (IntKind.wrap IntKind.i64 (0 - v.y))]))) (T2 (pIf (decide (IntKind.wrap IntKind.i64 (Int.tdiv n 4) = 4)) (T8 (True ∧ 3 ≤ 3 ∧ (T2 (True ∧ True)) ∧ Post (Value.agg #[vi v.z, vi v.y, vi (IntKind.wrap IntKind.i64 (0 - v.x))]))) (T2 (pIf (decide (IntKind.wrap IntKind.i64 (Int.tdiv n 4) = 5)) (T8 (True ∧ 3 ≤ 3 ∧ (T2 (True ∧ True)) ∧ Post (Value.agg #[vi (IntKind.wrap IntKind.i64 (0 - v.z)), vi v.y, vi v.x]))) (T2 (3 ≤ 3 ∧ (T2 (True ∧ True)) ∧ Post (Value.agg #[vi v.x, vi v.y, vi v.z]))))))))))))) := by kernel_rfl
theorem e_vvalid (a : Vec3) (k : Int) (H : HT) (Post : PV) : vcP Tryz.prog (tabCall [⟨124, c_vin⟩, ⟨125, c_num⟩] noCall) 53 [] [placeV a k] H Post = (T4 (∃ (v : Vec3), ∃ (n : Int), eqL [Value.agg #[vi a.x, vi a.y, vi a.z], vi 524288] [vecV v, vi n] ∧ Lim n ∧ pIf (decide (inV v n)) (T8 (pIf (decide (k = turnNo k)) (T2 (True ∧ Post (vb true))) (T2 (True ∧ Post (vb false))))) (T4 (True ∧ Post (vb false))))) := by kernel_rfl
theorem e_vapply (a : Vec3) (k : Int) (v : Vec3) (H : HT) (Post : PV) : vcP Tryz.prog (inlCall Tryz.prog [145] (tabCall [⟨124, c_vin⟩, ⟨146, c_turned⟩] noCall) 2) 72 [] [placeV a k, vecV v] H Post = (T4 (True ∧ ∃ (v_1 : Vec3), ∃ (n : Int), eqL [Value.agg #[vi a.x, vi a.y, vi a.z], vi 1099511627776] [vecV v_1, vi n] ∧ Lim n ∧ pIf (decide (inV v_1 n)) (T2 (True ∧ ∃ (v_2 : Vec3), ∃ (n : Int), eqL [Value.agg #[vi v.x, vi v.y, vi v.z], vi 1099511627776] [vecV v_2, vi n] ∧ Lim n ∧ pIf (decide (inV v_2 n)) (T4 (T2 (True ∧ ∃ (v_3 : Vec3), ∃ (k_1 : Int), eqL [Value.agg #[vi v.x, vi v.y, vi v.z], vi k] [vecV v_3, vi k_1] ∧ VLim v_3 ∧ T16 (T4 (3 ≤ 3 ∧ True ∧ 3 ≤ 3 ∧ True ∧ (T2 (True ∧ True)) ∧ Post (Value.agg #[vi (IntKind.wrap IntKind.i64 (Vec3.x (turnV v_3 k_1) + a.x)), vi (IntKind.wrap IntKind.i64 (Vec3.y (turnV v_3 k_1) + a.y)), vi (IntKind.wrap IntKind.i64 (Vec3.z (turnV v_3 k_1) + a.z))])))))) (T2 (True ∧ 3 ≤ 3 ∧ (T2 (True ∧ True)) ∧ Post (Value.agg #[vi 0, vi 0, vi 0]))))) (T4 (3 ≤ 3 ∧ (T2 (True ∧ True)) ∧ Post (Value.agg #[vi 0, vi 0, vi 0]))))) := by kernel_rfl
def ceilP (a b : Int) : Int := -((-a).fdiv b)
def roundP (a b : Int) : Int := (2 * a + b).fdiv (2 * b)
structure Quo (a b : Int) : Prop where
 h : -2305843009213693952 ≤ a ∧ a ≤ 2305843009213693952 ∧ 1 ≤ b ∧ b ≤ 1152921504606846976
def c_floor (args : List Value) (Post : Value → Prop) : Prop := ∃ a b : Int, args = [.int .i64 a, .int .i64 b] ∧ Quo a b ∧ Post (.tuple #[.int .i64 (a.fdiv b), .int .i64 0])
def c_ceil (args : List Value) (Post : Value → Prop) : Prop := ∃ a b : Int, args = [.int .i64 a, .int .i64 b] ∧ Quo a b ∧ Post (.tuple #[.int .i64 (ceilP a b), .int .i64 0])
def c_round (args : List Value) (Post : Value → Prop) : Prop := ∃ a b : Int, args = [.int .i64 a, .int .i64 b] ∧ Quo a b ∧ Post (.tuple #[.int .i64 (roundP a b), .int .i64 0])
theorem e_floor (a b : Int) (H : HT) (Post : PV) : vcP Tryz.prog (inlCall Tryz.prog [147] noCall 2) 211 [] [.int .i64 a, .int .i64 b] H Post = (let q3 := T8 (True ∧ (T2 (True)) ∧ Post (Value.tuple #[vi (IntKind.wrap IntKind.i64 (IntKind.wrap IntKind.i64 (Int.tdiv a b) - 1)), vi 0])); let q2 := T4 (T2 ((T2 (True)) ∧ Post (Value.tuple #[vi (IntKind.wrap IntKind.i64 (Int.tdiv a b)), vi 0]))); let q1 := (b = 0 → False) ∧ T8 (T4 (pIf (!decide (Int.tmod a b = 0)) (T2 (True ∧ pIf (decide (Int.tmod a b < 0)) (T2 (pIf (decide (b < 0)) q2 q3)) (T2 (pIf (decide (b < 0)) q3 q2)))) q2)); T8 (True ∧ pIf (decide (b = 0)) (T16 (T2 (True ∧ (T2 (True)) ∧ Post (Value.tuple #[vi 0, vi 22])))) (T2 (True ∧ pIf (decide (a = -9223372036854775808)) (T2 (True ∧ pIf (decide (b = -1)) (T16 (T4 ((T2 (True)) ∧ Post (Value.tuple #[vi 0, vi 21])))) (T4 ((b = 0 → False) ∧ T2 q1)))) (T4 (True ∧ (b = 0 → False) ∧ T2 q1)))))) := by kernel_rfl
theorem e_ceil (a b : Int) (H : HT) (Post : PV) : vcP Tryz.prog (inlCall Tryz.prog [147] noCall 2) 73 [] [.int .i64 a, .int .i64 b] H Post = (let q3 := T8 (True ∧ (T2 (True)) ∧ Post (Value.tuple #[vi (IntKind.wrap IntKind.i64 (IntKind.wrap IntKind.i64 (Int.tdiv a b) + 1)), vi 0])); let q2 := T4 (T2 ((T2 (True)) ∧ Post (Value.tuple #[vi (IntKind.wrap IntKind.i64 (Int.tdiv a b)), vi 0]))); let q1 := (b = 0 → False) ∧ T8 (T4 (pIf (!decide (Int.tmod a b = 0)) (T2 (True ∧ pIf (decide (Int.tmod a b < 0)) (T2 (pIf (decide (b < 0)) q3 q2)) (T2 (pIf (decide (b < 0)) q2 q3)))) q2)); T8 (True ∧ pIf (decide (b = 0)) (T16 (T2 (True ∧ (T2 (True)) ∧ Post (Value.tuple #[vi 0, vi 22])))) (T2 (True ∧ pIf (decide (a = -9223372036854775808)) (T2 (True ∧ pIf (decide (b = -1)) (T16 (T4 ((T2 (True)) ∧ Post (Value.tuple #[vi 0, vi 21])))) (T4 ((b = 0 → False) ∧ T2 q1)))) (T4 (True ∧ (b = 0 → False) ∧ T2 q1)))))) := by kernel_rfl
theorem e_round (a b : Int) (H : HT) (Post : PV) : vcP Tryz.prog (inlCall Tryz.prog [212] (tabCall [⟨211, c_floor⟩] noCall) 2) 142 [] [.int .i64 a, .int .i64 b] H Post = (T4 (∃ (a_1 : Int), ∃ (b_1 : Int), eqL [vi a, vi b] [vi a_1, vi b_1] ∧ Quo a_1 b_1 ∧ T8 (T4 (T2 (True ∧ pIf (decide (IntKind.wrap IntKind.i64 (a - IntKind.wrap IntKind.i64 (Int.fdiv a_1 b_1 * b)) < 0)) (T8 (T2 (pIf (decide (b < 0)) (T4 (T2 (True ∧ pIf (decide (IntKind.wrap IntKind.u64 (0 - IntKind.wrap IntKind.u64 (IntKind.wrap IntKind.i64 (a - IntKind.wrap IntKind.i64 (Int.fdiv a_1 b_1 * b)))) ≥ IntKind.wrap IntKind.u64 (IntKind.wrap IntKind.u64 (0 - IntKind.wrap IntKind.u64 b) - IntKind.wrap IntKind.u64 (0 - IntKind.wrap IntKind.u64 (IntKind.wrap IntKind.i64 (a - IntKind.wrap IntKind.i64 (Int.fdiv a_1 b_1 * b))))))) (T4 (T2 ((T2 (True)) ∧ Post (Value.tuple #[vi (IntKind.wrap IntKind.i64 (Int.fdiv a_1 b_1 + 1)), vi 0])))) (T2 (True ∧ (T2 (True)) ∧ Post (Value.tuple #[vi (Int.fdiv a_1 b_1), vi 0])))))) (T4 (T2 (pIf (decide (IntKind.wrap IntKind.u64 (0 - IntKind.wrap IntKind.u64 (IntKind.wrap IntKind.i64 (a - IntKind.wrap IntKind.i64 (Int.fdiv a_1 b_1 * b)))) ≥ IntKind.wrap IntKind.u64 (IntKind.wrap IntKind.u64 b - IntKind.wrap IntKind.u64 (0 - IntKind.wrap IntKind.u64 (IntKind.wrap IntKind.i64 (a - IntKind.wrap IntKind.i64 (Int.fdiv a_1 b_1 * b))))))) (T4 (T2 ((T2 (True)) ∧ Post (Value.tuple #[vi (IntKind.wrap IntKind.i64 (Int.fdiv a_1 b_1 + 1)), vi 0])))) (T2 (True ∧ (T2 (True)) ∧ Post (Value.tuple #[vi (Int.fdiv a_1 b_1), vi 0]))))))))) (T8 (True ∧ pIf (decide (b < 0)) (T4 (T2 (True ∧ pIf (decide (IntKind.wrap IntKind.u64 (IntKind.wrap IntKind.i64 (a - IntKind.wrap IntKind.i64 (Int.fdiv a_1 b_1 * b))) ≥ IntKind.wrap IntKind.u64 (IntKind.wrap IntKind.u64 (0 - IntKind.wrap IntKind.u64 b) - IntKind.wrap IntKind.u64 (IntKind.wrap IntKind.i64 (a - IntKind.wrap IntKind.i64 (Int.fdiv a_1 b_1 * b)))))) (T4 (T2 ((T2 (True)) ∧ Post (Value.tuple #[vi (IntKind.wrap IntKind.i64 (Int.fdiv a_1 b_1 + 1)), vi 0])))) (T2 (True ∧ (T2 (True)) ∧ Post (Value.tuple #[vi (Int.fdiv a_1 b_1), vi 0])))))) (T4 (T2 (pIf (decide (IntKind.wrap IntKind.u64 (IntKind.wrap IntKind.i64 (a - IntKind.wrap IntKind.i64 (Int.fdiv a_1 b_1 * b))) ≥ IntKind.wrap IntKind.u64 (IntKind.wrap IntKind.u64 b - IntKind.wrap IntKind.u64 (IntKind.wrap IntKind.i64 (a - IntKind.wrap IntKind.i64 (Int.fdiv a_1 b_1 * b)))))) (T4 (T2 ((T2 (True)) ∧ Post (Value.tuple #[vi (IntKind.wrap IntKind.i64 (Int.fdiv a_1 b_1 + 1)), vi 0])))) (T2 (True ∧ (T2 (True)) ∧ Post (Value.tuple #[vi (Int.fdiv a_1 b_1), vi 0]))))))))))))) := by kernel_rfl
theorem wrapU {n : Int} (h1 : 0 ≤ n) (h2 : n < 18446744073709551616) : IntKind.u64.wrap n = n := by
 have e : IntKind.u64.wrap n = n % 18446744073709551616 := by
  unfold IntKind.wrap
  simp [IntKind.signed, IntKind.bits]
 rw [e]
 omega
theorem fdiv_char {a b : Int} (hb : 0 < b) : b * a.fdiv b ≤ a ∧ a < b * a.fdiv b + b := by
 have h1 := Int.mul_fdiv_add_fmod a b
 have h2 := Int.fmod_nonneg_of_pos a hb
 have h3 := Int.fmod_lt_of_pos a hb
 omega
theorem fdiv_eq {a b x : Int} (hb : 0 < b) (h1 : b * x ≤ a) (h2 : a < b * x + b) : a.fdiv b = x := by
 obtain ⟨h3, h4⟩ := fdiv_char (a := a) hb
 generalize a.fdiv b = f at *
 have k1 : b * x < b * (f + 1) := by rw [Int.mul_add, Int.mul_one]; omega
 have k2 : b * f < b * (x + 1) := by rw [Int.mul_add, Int.mul_one]; omega
 have := Int.lt_of_mul_lt_mul_left k1 (by omega)
 have := Int.lt_of_mul_lt_mul_left k2 (by omega)
 omega
theorem fdiv_bd {a b : Int} (hb : 0 < b) : (0 ≤ a.fdiv b → a.fdiv b ≤ a) ∧ (a.fdiv b < 0 → a ≤ a.fdiv b) := by
 obtain ⟨h3, h4⟩ := fdiv_char (a := a) hb
 generalize a.fdiv b = f at *
 constructor
 ·intro h
  have := Int.mul_le_mul_of_nonneg_right (show 1 ≤ b by omega) h
  omega
 ·intro h
  have := Int.mul_le_mul_of_nonpos_right (show 1 ≤ b by omega) (show f + 1 ≤ 0 by omega)
  rw [Int.mul_add] at this
  omega
theorem tfacts {a b : Int} (hb : 0 < b) : b * a.tdiv b + a.tmod b = a ∧ -b < a.tmod b ∧ a.tmod b < b ∧ (0 ≤ a → 0 ≤ a.tmod b) ∧ (a ≤ 0 → a.tmod b ≤ 0) := by
 have h1 := Int.mul_tdiv_add_tmod a b
 have h2 := Int.tmod_lt_of_pos a hb
 have h3 := Int.tmod_lt_of_pos (-a) hb
 have h4 : (-a).tmod b = -(a.tmod b) := Int.neg_tmod a b
 refine ⟨h1, by omega, h2, fun h => Int.tmod_nonneg b h, fun h => ?_⟩
 have := Int.tmod_nonneg b (show 0 ≤ -a by omega)
 omega
theorem ok_floor : EntOk Tryz.prog ⟨211, c_floor⟩ := by
 rintro args Post ⟨a, b, rfl, hq, h⟩
 refine pure_P (inlCall_ok mixed noCall_ok 2) mixed (by kernel_rfl) (by kernel_rfl) _ (e_floor a b _ _) ?_
 obtain ⟨q1, q2, q3, q4⟩ := hq.h
 obtain ⟨t1, t2, t3, t4, t5⟩ := tfacts (a := a) (b := b) (by omega)
 have t6 : (a.tdiv b).natAbs ≤ a.natAbs := Int.natAbs_tdiv_le_natAbs a b
 have yes : ∀ x, x = a.fdiv b → Post (.tuple #[.int .i64 x, .int .i64 0]) := fun x e => by rw [e]; exact h
 have e1 : b * (a.tdiv b - 1) = b * a.tdiv b - b := by rw [Int.mul_sub, Int.mul_one]
 have k0 : 0 ≤ a.tmod b → Post (.tuple #[.int .i64 (IntKind.i64.wrap (a.tdiv b)), .int .i64 0]) := fun h0 => yes _ (by rw [wrap64 (by omega) (by omega), fdiv_eq (x := a.tdiv b) (by omega) (by omega) (by omega)])
 have k1 : a.tmod b < 0 → Post (.tuple #[.int .i64 (IntKind.i64.wrap (IntKind.i64.wrap (a.tdiv b) - 1)), .int .i64 0]) := fun h0 => yes _ (by rw [wrap64 (n := a.tdiv b) (by omega) (by omega), wrap64 (by omega) (by omega), fdiv_eq (x := a.tdiv b - 1) (by omega) (by omega) (by omega)])
 simp only [true_and]
 repeat' (first
  | refine ifD (fun _ => ?_) (fun _ => ?_)
  | refine ifN (fun _ => ?_) (fun _ => ?_)
  | (exfalso; omega)
  | refine And.intro (fun _ => ?_) ?_
  | exact k0 (by omega)
  | exact k1 (by omega))
theorem ceil_eq {a b x : Int} (hb : 0 < b) (h1 : b * x - b < a) (h2 : a ≤ b * x) : ceilP a b = x := by
 unfold ceilP
 rw [fdiv_eq (x := -x) hb (by rw [Int.mul_neg]; omega) (by rw [Int.mul_neg]; omega)]
 omega
theorem ok_ceil : EntOk Tryz.prog ⟨73, c_ceil⟩ := by
 rintro args Post ⟨a, b, rfl, hq, h⟩
 refine pure_P (inlCall_ok mixed noCall_ok 2) mixed (by kernel_rfl) (by kernel_rfl) _ (e_ceil a b _ _) ?_
 obtain ⟨q1, q2, q3, q4⟩ := hq.h
 obtain ⟨t1, t2, t3, t4, t5⟩ := tfacts (a := a) (b := b) (by omega)
 have t6 : (a.tdiv b).natAbs ≤ a.natAbs := Int.natAbs_tdiv_le_natAbs a b
 have yes : ∀ x, x = ceilP a b → Post (.tuple #[.int .i64 x, .int .i64 0]) := fun x e => by rw [e]; exact h
 have e1 : b * (a.tdiv b + 1) = b * a.tdiv b + b := by rw [Int.mul_add, Int.mul_one]
 have k0 : a.tmod b ≤ 0 → Post (.tuple #[.int .i64 (IntKind.i64.wrap (a.tdiv b)), .int .i64 0]) := fun h0 => yes _ (by rw [wrap64 (by omega) (by omega), ceil_eq (x := a.tdiv b) (by omega) (by omega) (by omega)])
 have k1 : 0 < a.tmod b → Post (.tuple #[.int .i64 (IntKind.i64.wrap (IntKind.i64.wrap (a.tdiv b) + 1)), .int .i64 0]) := fun h0 => yes _ (by rw [wrap64 (n := a.tdiv b) (by omega) (by omega), wrap64 (by omega) (by omega), ceil_eq (x := a.tdiv b + 1) (by omega) (by omega) (by omega)])
 simp only [true_and]
 repeat' (first
  | refine ifD (fun _ => ?_) (fun _ => ?_)
  | refine ifN (fun _ => ?_) (fun _ => ?_)
  | (exfalso; omega)
  | refine And.intro (fun _ => ?_) ?_
  | exact k0 (by omega)
  | exact k1 (by omega))
theorem round_facts {a b : Int} (hq : Quo a b) : IntKind.i64.wrap (a - IntKind.i64.wrap (a.fdiv b * b)) = a - a.fdiv b * b ∧ 0 ≤ a - a.fdiv b * b ∧ a - a.fdiv b * b < b ∧ -2305843009213693953 ≤ a.fdiv b ∧ a.fdiv b ≤ 2305843009213693952 := by
 obtain ⟨q1, q2, q3, q4⟩ := hq.h
 obtain ⟨f1, f2⟩ := fdiv_char (a := a) (b := b) (by omega)
 obtain ⟨f3, f4⟩ := fdiv_bd (a := a) (b := b) (by omega)
 rw [Int.mul_comm] at f1 f2
 refine ⟨?_, by omega, by omega, by omega, by omega⟩
 rw [wrap64 (n := a.fdiv b * b) (by omega) (by omega), wrap64 (by omega) (by omega)]
theorem round_eq {a b : Int} (hb : 0 < b) : (b ≤ 2 * (a - a.fdiv b * b) → roundP a b = a.fdiv b + 1) ∧ (2 * (a - a.fdiv b * b) < b → roundP a b = a.fdiv b) := by
 obtain ⟨f1, f2⟩ := fdiv_char (a := a) hb
 unfold roundP
 generalize a.fdiv b = f at *
 rw [Int.mul_comm] at f1 f2
 have e1 : 2 * b * (f + 1) = 2 * (f * b) + 2 * b := by rw [Int.mul_add, Int.mul_one, Int.mul_assoc, Int.mul_comm b f]
 have e2 : 2 * b * f = 2 * (f * b) := by rw [Int.mul_assoc, Int.mul_comm b f]
 exact ⟨fun h => fdiv_eq (by omega) (by omega) (by omega), fun h => fdiv_eq (by omega) (by omega) (by omega)⟩
theorem ok_round : EntOk Tryz.prog ⟨142, c_round⟩ := by
 rintro args Post ⟨a, b, rfl, hq, h⟩
 refine pure_P (inlCall_ok mixed (tabCall_ok (by
  intro e he
  simp only [List.mem_cons, List.not_mem_nil, or_false] at he
  subst he
  exact ok_floor) noCall_ok) 2) mixed (by kernel_rfl) (by kernel_rfl) _ (e_round a b _ _) ?_
 obtain ⟨q1, q2, q3, q4⟩ := hq.h
 obtain ⟨r1, r2, r3, r4, r5⟩ := round_facts hq
 obtain ⟨g1, g2⟩ := round_eq (a := a) (b := b) (by omega)
 simp only [true_and]
 refine ⟨a, b, rfl, hq, ?_⟩
 rw [r1]
 generalize hr : a - a.fdiv b * b = r at *
 have u1 : IntKind.u64.wrap r = r := wrapU (by omega) (by omega)
 have u2 : IntKind.u64.wrap b = b := wrapU (by omega) (by omega)
 have u3 : IntKind.u64.wrap (b - r) = b - r := wrapU (by omega) (by omega)
 have w1 : IntKind.i64.wrap (a.fdiv b + 1) = a.fdiv b + 1 := wrap64 (by omega) (by omega)
 rw [u1, u2, u3, w1]
 refine ifD (fun _ => by exfalso; omega) (fun _ => ifD (fun _ => by exfalso; omega) (fun _ => ifD (fun h1 => ?_) (fun h1 => ?_)))
 ·rwa [g1 (by omega)] at h
 ·rwa [g2 (by omega)] at h
theorem ok_vin : EntOk Tryz.prog ⟨124, c_vin⟩ := by
 rintro args Post ⟨v, n, rfl, hn, h⟩
 refine pure_P noCall_ok mixed (by kernel_rfl) (by kernel_rfl) _ (e_vin v n _ _) ?_
 have hl := hn.h
 have yes : inV v n → Post (.bool true) := fun hp => by rwa [decide_eq_true hp] at h
 have no : ¬ inV v n → Post (.bool false) := fun hp => by rwa [decide_eq_false hp] at h
 have w1 : IntKind.i64.wrap (0 - n) = -n := by rw [wrap64 (by omega) (by omega)]; omega
 simp only [true_and, w1]
 unfold inV at yes no
 repeat' (first
  | refine ifD (fun _ => ?_) (fun _ => ?_)
  | exact yes (by omega)
  | exact no (by omega))
theorem ok_num : EntOk Tryz.prog ⟨125, c_num⟩ := by
 intro args Post hc
 unfold c_num at hc
 dsimp only at hc
 split at hc
 case h_2 => exact hc.elim
 rename_i n
 refine pure_P noCall_ok mixed (by kernel_rfl) (by kernel_rfl) _ (e_num n _ _) ?_
 unfold turnNo at hc
 simp only [true_and]
 refine ifD (fun h1 => ?_) (fun h1 => ifD (fun h2 => ?_) (fun h2 => ?_))
 ·rwa [if_pos (by omega)] at hc
 ·rwa [if_pos (by omega)] at hc
 ·rwa [if_neg (by omega)] at hc
theorem negW {n : Int} (h1 : -1099511627776 ≤ n) (h2 : n ≤ 1099511627776) : IntKind.i64.wrap (0 - n) = -n := by
 rw [wrap64 (by omega) (by omega)]; omega
theorem quart_in {v : Vec3} (h : VLim v) : ∀ n, VLim (quart n v)
 | 0 => h
 | n + 1 => by
  have := (quart_in h n).h
  unfold inV at this
  constructor
  unfold quart inV
  dsimp only
  omega
theorem turnNo_bd (k : Int) : 0 ≤ turnNo k ∧ turnNo k < 24 := by
 unfold turnNo
 split <;> omega
theorem tdiv4 {n : Int} (h1 : 0 ≤ n) (h2 : n < 24) : 0 ≤ n.tdiv 4 ∧ n.tdiv 4 < 6 ∧ 0 ≤ n.tmod 4 ∧ n.tmod 4 < 4 ∧ IntKind.i64.wrap (n.tdiv 4) = n.tdiv 4 := by
 have e := tfacts (a := n) (b := 4) (by decide)
 refine ⟨by omega, by omega, by omega, by omega, wrap64 (by omega) (by omega)⟩
theorem tilt_Post {v : Vec3} (_ : VLim v) {n : Int} {Post : Value → Prop} (h : Post (vecV (tiltV v n))) :
  pIf (decide (n = 1)) (Post (vecV ⟨v.x, -v.z, v.y⟩)) (pIf (decide (n = 2)) (Post (vecV ⟨v.x, -v.y, -v.z⟩)) (pIf (decide (n = 3)) (Post (vecV ⟨v.x, v.z, -v.y⟩)) (pIf (decide (n = 4)) (Post (vecV ⟨v.z, v.y, -v.x⟩)) (pIf (decide (n = 5)) (Post (vecV ⟨-v.z, v.y, v.x⟩)) (Post (vecV v)))))) := by
 unfold tiltV at h
 refine ifD (fun h1 => ?_) (fun h1 => ?_)
 ·rwa [if_pos h1] at h
 rw [if_neg h1] at h
 refine ifD (fun h2 => ?_) (fun h2 => ?_)
 ·rwa [if_pos h2] at h
 rw [if_neg h2] at h
 refine ifD (fun h3 => ?_) (fun h3 => ?_)
 ·rwa [if_pos h3] at h
 rw [if_neg h3] at h
 refine ifD (fun h4 => ?_) (fun h4 => ?_)
 ·rwa [if_pos h4] at h
 rw [if_neg h4] at h
 refine ifD (fun h5 => ?_) (fun h5 => ?_)
 ·rwa [if_pos h5] at h
 ·rwa [if_neg h5] at h
theorem ok_turned : EntOk Tryz.prog ⟨146, c_turned⟩ := by
 rintro args Post ⟨v, k, rfl, hv, h⟩
 have hok : VCallOk Tryz.prog vcTu := tabCall_ok (by
  intro e he
  simp only [List.mem_cons, List.not_mem_nil, or_false] at he
  subst he
  exact ok_num) noCall_ok
 refine pure_P hok mixed (by kernel_rfl) (by kernel_rfl) _ (e_turned v k _ _) ?_
 obtain ⟨t1, t2⟩ := turnNo_bd k
 obtain ⟨d1, d2, d3, d4, d5⟩ := tdiv4 t1 t2
 obtain ⟨m, hm⟩ := Int.eq_ofNat_of_zero_le d3
 simp only [true_and, toI_int]
 refine ⟨fun h => by omega, ?_⟩
 rw [hm]
 unfold turnV at h
 rw [hm, Int.toNat_natCast] at h
 refine down (n := m) (p := fun i => OkP 146 [vecV v, .int .i64 k] 3 Post (stV [(1, some (.int .i64 (turnNo k))), (2, some (.pointer (some ⟨0, 0, none⟩))), (4, some (.pointer (some ⟨1, 0, none⟩))), (8, some (.int .i64 m)), (9, some (.int .i64 i))] [(0, some (.cells [.int .i64 (quart i v).x, .int .i64 (quart i v).y, .int .i64 (quart i v).z] true)), (1, some (.cells [.int .i64 0, .int .i64 0, .int .i64 0] true))] 2)) ?_ (fun i i1 ih => ?_)
 ·refine ok_P hok mixed _ (l_turned v (quart m v) k (turnNo k) m m _ _) ?_
  have hq := (quart_in hv m).h
  unfold inV at hq
  simp only [true_and, toI_int, d5, negW (n := (quart m v).x) (by omega) (by omega), negW (n := (quart m v).y) (by omega) (by omega), negW (n := (quart m v).z) (by omega) (by omega), show (3 ≤ 3) = True from eq_true (by decide)]
  exact ifD (fun hlt => by omega) (fun _ => ⟨fun h => by omega, tilt_Post (quart_in hv m) h⟩)
 ·refine ok_P hok mixed _ (l_turned v (quart i v) k (turnNo k) m i _ _) ?_
  have hq := (quart_in hv i).h
  unfold inV at hq
  simp only [true_and, negW (n := (quart i v).y) (by omega) (by omega), wrapSucc (show i < 2 ^ 62 by omega)]
  exact ifD (fun _ => ⟨by decide, ih⟩) (fun h' => by omega)
theorem ok_vvalid : EntOk Tryz.prog ⟨53, c_vvalid⟩ := by
 rintro args Post ⟨a, k, rfl, h⟩
 refine pure_P (tabCall_ok (by
  intro e he
  simp only [List.mem_cons, List.not_mem_nil, or_false] at he
  rcases he with rfl | rfl
  ·exact ok_vin
  ·exact ok_num) noCall_ok) mixed (by kernel_rfl) (by kernel_rfl) _ (e_vvalid a k _ _) ?_
 simp only [true_and]
 refine ⟨a, 524288, rfl, ⟨by decide⟩, ifD (fun h1 => ifD (fun h2 => ?_) (fun h2 => ?_)) (fun h1 => ?_)⟩
 ·rwa [decide_eq_true (show validP a k from ⟨h1, h2⟩)] at h
 ·rwa [decide_eq_false (fun hp : validP a k => h2 hp.2)] at h
 ·rwa [decide_eq_false (fun hp : validP a k => h1 hp.1)] at h
theorem tilt_in {v : Vec3} (h : VLim v) (n : Int) : VLim (tiltV v n) := by
 have := h.h
 unfold inV at this
 constructor
 unfold tiltV inV
 repeat' split
 all_goals ((try dsimp only); omega)
theorem turn_in {v : Vec3} (h : VLim v) (k : Int) : VLim (turnV v k) := tilt_in (quart_in h _) _
theorem apply_Post {a v : Vec3} {k : Int} (ha : inV a 1099511627776) (hv : inV v 1099511627776) {Post : Value → Prop} (h : Post (vecV (applyV a k v))) :
  Post (.agg #[.int .i64 (IntKind.i64.wrap ((turnV v k).x + a.x)), .int .i64 (IntKind.i64.wrap ((turnV v k).y + a.y)), .int .i64 (IntKind.i64.wrap ((turnV v k).z + a.z))]) := by
 unfold applyV at h
 rw [if_neg (by rintro (h | h); exact h ha; exact h hv)] at h
 have h1 := (turn_in ⟨hv⟩ k).h
 have h2 := ha
 unfold inV at h1 h2
 rw [wrap64 (n := (turnV v k).x + a.x) (by omega) (by omega), wrap64 (n := (turnV v k).y + a.y) (by omega) (by omega), wrap64 (n := (turnV v k).z + a.z) (by omega) (by omega)]
 exact h
theorem apply_zero {a v : Vec3} {k : Int} (hn : ¬ inV a 1099511627776 ∨ ¬ inV v 1099511627776) {Post : Value → Prop} (h : Post (vecV (applyV a k v))) : Post (.agg #[.int .i64 0, .int .i64 0, .int .i64 0]) := by
 unfold applyV at h
 rw [if_pos hn] at h
 exact h
theorem ok_vapply : EntOk Tryz.prog ⟨72, c_vapply⟩ := by
 rintro args Post ⟨a, k, v, rfl, h⟩
 refine pure_P (inlCall_ok mixed (tabCall_ok (by
  intro e he
  simp only [List.mem_cons, List.not_mem_nil, or_false] at he
  rcases he with rfl | rfl
  ·exact ok_vin
  ·exact ok_turned) noCall_ok) 2) mixed (by kernel_rfl) (by kernel_rfl) _ (e_vapply a k v _ _) ?_
 simp only [true_and]
 refine ⟨a, 1099511627776, rfl, ⟨by decide⟩, ifD (fun h1 => ⟨v, 1099511627776, rfl, ⟨by decide⟩, ifD (fun h2 => ⟨v, k, rfl, ⟨h2⟩, by decide, by decide, apply_Post h1 h2 h⟩) (fun h2 => ⟨by decide, apply_zero (.inr h2) h⟩)⟩) (fun h1 => ⟨by decide, apply_zero (.inl h1) h⟩)⟩
theorem closedL {ρ : Place} {l l' : List Value} (hl : l.all closed = true) (h : VRL ρ l l') : l' = l := by
 refine List.ext_getElem? fun i => ?_
 have hlen := h.len
 rcases Nat.lt_or_ge i l.length with hi | hi
 ·have h1 : l[i]? = some l[i] := List.getElem?_eq_getElem hi
  have h2 : l'[i]? = some (l'[i]'(by omega)) := List.getElem?_eq_getElem (by omega)
  have hr := h.get h1 h2
  rw [h1, h2, closed_eq (List.all_eq_true.1 hl _ (List.getElem_mem hi)) hr]
 ·rw [List.getElem?_eq_none hi, List.getElem?_eq_none (by omega)]
theorem pure_of_calls {P : Program} {f : FuncId} {args : List Value} {Post : Value → Prop} {v : Value} (ha : args.all closed = true) (hv : nl1 v = true) (hr : ∀ ρ, VR ρ v v) (h : ∀ w, Calls P f args.toArray w fun e w' => e = .returned v ∧ w' = w) (hP : Post v) : Pure P f args Post := by
 intro W ρ w args' hrel hargs
 obtain rfl := closedL ha hargs
 refine (h w).mono fun e w' ⟨he, hw⟩ => ?_
 subst he hw
 exact ⟨v, .e, 0, v, ρ, hP, rfl, nl1_sound hv (hr ρ), hrel, .refl _ _⟩
def dot : ByteArray := ⟨#[46]⟩
theorem run_cnt (s : ByteArray) (w : World) : (callFunc 247 #[.string s, .int .u8 46]).run Tryz.prog w = .ok (.value (.int .i64 (Lib.countByte s.data.toList 46))) w := by
 rw [run_callFunc_extern Tryz.func247 (by kernel_rfl) (by kernel_rfl) (by kernel_rfl) (e := Extern.BytealgCount.count) (by kernel_rfl), Lib.run_countString]
 rfl
theorem run_idx (s : ByteArray) (w : World) : (callFunc 269 #[.string s, .int .u8 46]).run Tryz.prog w = .ok (.value (.int .i64 (Lib.indexByte s.data.toList 46))) w := by
 rw [run_callFunc_extern Tryz.func269 (by kernel_rfl) (by kernel_rfl) (by kernel_rfl) (e := Extern.BytealgIndexByte.indexByte) (by kernel_rfl), Lib.run_indexByteString]
 rfl
set_option maxHeartbeats 1000000 in
theorem count_walk (s : ByteArray) (w : World) : Calls Tryz.prog 225 #[.string s, .string dot] w fun e w' => e = .returned (.int .i64 (Lib.countByte s.data.toList 46)) ∧ w' = w := by
 unfold dot
 go_enter Tryz.func225, Tryz.ntmps225
 go_wp2
 erw [run_cnt]
 go_wp2
 go_ret
 exact ⟨rfl, rfl⟩
set_option maxHeartbeats 1000000 in
theorem index_walk (s : ByteArray) (w : World) : Calls Tryz.prog 260 #[.string s, .int .u8 46] w fun e w' => e = .returned (.int .i64 (Lib.indexByte s.data.toList 46)) ∧ w' = w := by
 go_enter Tryz.func260, Tryz.ntmps260
 go_wp2
 rw [run_idx]
 go_wp2
 go_ret
 exact ⟨rfl, rfl⟩
def c_Cnt (args : List Value) (Post : Value → Prop) : Prop := match args with
 | [.string s, .string d] => d = dot ∧ Post (.int .i64 (Lib.countByte s.data.toList 46))
 | _ => False
def c_Idx (args : List Value) (Post : Value → Prop) : Prop := match args with
 | [.string s, .int .u8 k] => k = 46 ∧ Post (.int .i64 (Lib.indexByte s.data.toList 46))
 | _ => False
theorem ok_Cnt : EntOk Tryz.prog ⟨225, c_Cnt⟩ := by
 intro args Post h
 unfold c_Cnt at h
 dsimp only at h
 split at h
 ·obtain ⟨rfl, h⟩ := h
  exact pure_of_calls rfl rfl (fun ρ => .int _ _) (fun w => count_walk _ w) h
 ·exact h.elim
theorem ok_Idx : EntOk Tryz.prog ⟨260, c_Idx⟩ := by
 intro args Post h
 unfold c_Idx at h
 dsimp only at h
 split at h
 ·obtain ⟨rfl, h⟩ := h
  exact pure_of_calls rfl rfl (fun ρ => .int _ _) (fun w => index_walk _ w) h
 ·exact h.elim
def be : Nat → Nat → List UInt8
 | 0, _ => []
 | n + 1, v => UInt8.ofNat (v / 256 ^ n) :: be n v
def hd (k v : Nat) : List UInt8 :=
 if v < 24 then [UInt8.ofNat (32 * k + v)]
 else if v < 256 then UInt8.ofNat (32 * k + 24) :: be 1 v
 else if v < 65536 then UInt8.ofNat (32 * k + 25) :: be 2 v
 else if v < 4294967296 then UInt8.ofNat (32 * k + 26) :: be 4 v
 else UInt8.ofNat (32 * k + 27) :: be 8 v
def b8 (x : UInt8) : Value := .int .u8 x.toNat
def str (l : List UInt8) : ByteArray := ⟨l.toArray⟩
theorem ba_ext {a b : ByteArray} (h : a.data.toList = b.data.toList) : a = b := by
 cases a; cases b; congr 1; exact Array.toList_inj.1 h
def byte0 (s : ByteArray) : UInt8 := Array.getD s.data 0 0
def ofBE (l : List UInt8) : Nat := l.foldl (fun v b => 256 * v + b.toNat) 0
def pk (s : ByteArray) (one two : Nat) : Nat × Nat × Nat × Nat :=
 if s.size = 0 then (0, 0, 0, 3)
 else if ((byte0 s).toNat / 32 ≠ one ∧ (byte0 s).toNat / 32 ≠ two) ∨ (byte0 s).toNat % 32 > 27 then (0, 0, 0, 5)
 else if (byte0 s).toNat % 32 < 24 then ((byte0 s).toNat / 32, (byte0 s).toNat % 32, 1, 0)
 else if s.size < 1 + 2 ^ ((byte0 s).toNat % 32 - 24) then (0, 0, 0, 3)
 else if str (hd ((byte0 s).toNat / 32) (ofBE (s.extract 1 (1 + 2 ^ ((byte0 s).toNat % 32 - 24))).data.toList)) ≠ s.extract 0 (1 + 2 ^ ((byte0 s).toNat % 32 - 24)) then (0, 0, 0, 5)
 else ((byte0 s).toNat / 32, ofBE (s.extract 1 (1 + 2 ^ ((byte0 s).toNat % 32 - 24))).data.toList, 1 + 2 ^ ((byte0 s).toNat % 32 - 24), 0)
def few16 (p : Part) : Prop := p.id.size ≤ 200 ∧ p.node.size ≤ 200 ∧ p.grade.size ≤ 200 ∧ p.sect.size ≤ 200 ∧ p.outer.length ≤ 40 ∧ p.holes.length ≤ 12 ∧ ∀ h ∈ p.holes, h.length ≤ 40
instance (p : Part) : Decidable (few16 p) := by unfold few16; infer_instance
theorem Vec3.ext' {p q : Vec3} (h1 : p.x = q.x) (h2 : p.y = q.y) (h3 : p.z = q.z) : p = q := by
 cases p; cases q; cases h1; cases h2; cases h3; rfl
theorem Part.ext' {p q : Part} (h1 : p.id = q.id) (h2 : p.rev = q.rev) (h3 : p.kind = q.kind) (h4 : p.node = q.node) (h5 : p.grade = q.grade) (h6 : p.thick = q.thick) (h7 : p.outer = q.outer) (h8 : p.holes = q.holes) (h9 : p.sect = q.sect)
  (h10 : p.long = q.long) (h11 : p.mass = q.mass) (h12 : p.centre = q.centre) (h13 : p.at_ = q.at_) (h14 : p.turn = q.turn) : p = q := by
 cases p; cases q
 simp only at h1 h2 h3 h4 h5 h6 h7 h8 h9 h10 h11 h12 h13 h14
 simp only [h1, h2, h3, h4, h5, h6, h7, h8, h9, h10, h11, h12, h13, h14]
theorem ext_list (s : ByteArray) (a b : Nat) : (s.extract a b).data.toList = (s.data.toList.drop a).take (b - a) := by
 rw [ByteArray.data_extract, Array.toList_extract]
def callSp : VCall := inlCall Tryz.prog [226, 248] (tabCall [⟨225, c_Cnt⟩, ⟨260, c_Idx⟩] noCall) 3
theorem callSp_ok : VCallOk Tryz.prog callSp := inlCall_ok mixed (tabCall_ok (by
 intro e he
 simp only [List.mem_cons, List.not_mem_nil, or_false] at he
 rcases he with rfl | rfl
 ·exact ok_Cnt
 ·exact ok_Idx) noCall_ok) 3
theorem e_gs (s : ByteArray) (H : HT) (Post : PV) : vcP Tryz.prog callSp 193 [(11, [0, 1, 2, 3, 9, 10])] [.string s, .string dot, .int .i64 0, .int .i64 (-1)] H Post = (let q2 := ((↑(Lib.countByte (Array.toList (ByteArray.data s)) 46) : Int) + 1); let q1 := (if IntKind.wrap IntKind.i64 ((↑s.size : Int) + 1) < IntKind.wrap IntKind.i64 q2 then IntKind.wrap IntKind.i64 ((↑s.size : Int) + 1) else IntKind.wrap IntKind.i64 q2); T8 (True ∧ dot = dot ∧ T8 (True ∧ ((0 ≤ if IntKind.wrap IntKind.i64 ((↑s.size : Int) + 1) < IntKind.wrap IntKind.i64 q2 then IntKind.wrap IntKind.i64 ((↑s.size : Int) + 1) else IntKind.wrap IntKind.i64 q2) ∧ (q1 ≤ if IntKind.wrap IntKind.i64 ((↑s.size : Int) + 1) < IntKind.wrap IntKind.i64 q2 then IntKind.wrap IntKind.i64 ((↑s.size : Int) + 1) else IntKind.wrap IntKind.i64 q2) ∧ q1 ≤ 2 ^ 25) ∧ T4 (T2 ((NLs (zrow (Int.toNat q1) [vz]) ∧ True) ∧ H (lpC Tryz.prog 193 11) (lpK Tryz.prog 193 11) (stV [(0, some (vs s)), (1, some (vs dot)), (2, some (vi 0)), (3, some (vi (IntKind.wrap IntKind.i64 (q1 - 1)))), (9, some (Value.slice (some (Addr.mk 0 0 none)) (Int.toNat q1) 1)), (10, some (vi 0))] [(0, some (AObj.cells (zrow (Int.toNat q1) [vz]) true))] 1)))))) := by kernel_rfl
theorem l_gs (s r : ByteArray) (L : List Value) (N : Nat) (c i : Int) (H : HT) (Post : PV) : vcLP Tryz.prog callSp 193 [.string s, .string dot, .int .i64 0, .int .i64 (-1)] [(11, [0, 1, 2, 3, 9, 10])] 11 (stV [(0, some (.string r)), (1, some (.string dot)), (2, some (.int .i64 0)), (3, some (.int .i64 c)), (9, some (.slice (some ⟨0, 0, none⟩) N 1)), (10, some (.int .i64 i))] [(0, some (.cells L true))] 1) H Post = (let q4 := Array.toList (ByteArray.data r); let q3 := IntKind.wrap IntKind.i64 (i + 1); let q2 := IntKind.wrap IntKind.i64 (Lib.indexByte q4 46 + 0); let q1 := (T2 (True ∧ (0 ≤ i ∧ i < (↑N : Int)) ∧ 0 + Int.toNat i * 1 + 1 ≤ List.length L ∧ T2 (True ∧ (0 ≤ IntKind.wrap IntKind.i64 (i + 1) ∧ True ∧ 0 ≤ Int.toNat q3 ∧ Int.toNat q3 ≤ N) ∧ True ∧ (0 + (Int.toNat q3 - 0) * 1 ≤ List.length (setFrom L (0 + Int.toNat i * 1) [vs r]) ∧ NLs (List.drop 0 (setFrom L (0 + Int.toNat i * 1) [vs r]))) ∧ Post (tree 1 (Int.toNat q3 - 0) (chunks 1 (Int.toNat q3 - 0) (List.drop 0 (setFrom L (0 + Int.toNat i * 1) [vs r]))))))); T2 (True ∧ pIf (decide (i < c)) (T8 (T4 (T2 (True ∧ pIf (decide (dot = r)) (T8 (T4 (True ∧ (toI (vi 0) ≤ IntKind.wrap IntKind.i64 (0 + 0) ∧ True ∧ 0 ≤ 0 ∧ 0 ≤ r.size) ∧ (0 ≤ i ∧ i < (↑N : Int)) ∧ 0 + Int.toNat i * 1 + 1 ≤ List.length L ∧ T4 (True ∧ (True ∧ toI (vi 0) ≤ IntKind.wrap IntKind.i64 (0 + (↑dot.size : Int)) ∧ 1 ≤ r.size ∧ r.size ≤ r.size) ∧ T4 (True ∧ (NLs (setFrom L (0 + Int.toNat i * 1) [vs (ByteArray.extract r 0 0)]) ∧ True) ∧ H (lpC Tryz.prog 193 11) (lpK Tryz.prog 193 11) (stV [(0, some (vs (ByteArray.extract r 1 r.size))), (1, some (vs dot)), (2, some (vi 0)), (3, some (vi c)), (9, some (Value.slice (some (Addr.mk 0 0 none)) N 1)), (10, some (vi q3))] [(0, some (AObj.cells (setFrom L (0 + Int.toNat i * 1) [vs (ByteArray.extract r 0 0)]) true))] 1)))))) (T4 (T2 (True ∧ (toI (vi 0) ≤ 0 ∧ toI (vi 0) < (↑dot.size : Int)) ∧ toI (vi (↑(UInt8.toNat (Array.getD (ByteArray.data dot) (Int.toNat 0) 0)) : Int)) = 46 ∧ T4 (True ∧ pIf (decide (Lib.indexByte q4 46 < 0)) q1 (T4 (T2 ((0 ≤ IntKind.wrap IntKind.i64 (Lib.indexByte q4 46 + 0) ∧ True ∧ 0 ≤ Int.toNat q2 ∧ Int.toNat q2 ≤ r.size) ∧ (0 ≤ i ∧ i < (↑N : Int)) ∧ 0 + Int.toNat i * 1 + 1 ≤ List.length L ∧ T4 (True ∧ (True ∧ 0 ≤ IntKind.wrap IntKind.i64 (Lib.indexByte q4 46 + (↑1 : Int)) ∧ Int.toNat (IntKind.wrap IntKind.i64 (Lib.indexByte q4 46 + (↑1 : Int))) ≤ r.size ∧ r.size ≤ r.size) ∧ T4 (True ∧ (NLs (setFrom L (0 + Int.toNat i * 1) [vs (ByteArray.extract r 0 (Int.toNat q2))]) ∧ True) ∧ H (lpC Tryz.prog 193 11) (lpK Tryz.prog 193 11) (stV [(0, some (vs (ByteArray.extract r (Int.toNat (IntKind.wrap IntKind.i64 (Lib.indexByte q4 46 + (↑1 : Int)))) r.size))), (1, some (vs dot)), (2, some (vi 0)), (3, some (vi c)), (9, some (Value.slice (some (Addr.mk 0 0 none)) N 1)), (10, some (vi q3))] [(0, some (AObj.cells (setFrom L (0 + Int.toNat i * 1) [vs (ByteArray.extract r 0 (Int.toNat q2))]) true))] 1)))))))))))))) q1)) := by kernel_rfl
def splitL : List UInt8 → List (List UInt8)
 | [] => [[]]
 | c :: l => if c = 46 then [] :: splitL l else match splitL l with
  | p :: ps => (c :: p) :: ps
  | [] => [[c]]
def pieces (s : ByteArray) : List ByteArray := (splitL s.data.toList).map fun l => ⟨l.toArray⟩
theorem splitL_none : ∀ {l : List UInt8}, Lib.countByte l 46 = 0 → splitL l = [l]
 | [], _ => rfl
 | c :: l, h => by
  unfold Lib.countByte at h
  rw [List.count_cons] at h
  by_cases hc : c = 46
  ·subst hc; simp at h
  ·have h0 : Lib.countByte l 46 = 0 := by unfold Lib.countByte; omega
   simp only [splitL, hc, if_false, splitL_none h0]
theorem idx_neg : ∀ {l : List UInt8}, Lib.indexByte l 46 < 0 → Lib.countByte l 46 = 0
 | [], _ => rfl
 | c :: l, h => by
  unfold Lib.indexByte at h
  by_cases hc : c = 46
  ·subst hc; simp at h
  ·have hb : (c == 46) = false := by simp [hc]
   rw [hb] at h
   simp only [Bool.false_eq_true, if_false] at h
   have hge := Lib.indexByte_ge l 46
   split at h
   ·rename_i h1
    have ih := idx_neg (l := l) (by rw [beq_iff_eq] at h1; omega)
    unfold Lib.countByte at ih ⊢
    rw [List.count_cons, ih, hb]
    rfl
   ·rename_i h1
    simp only [beq_iff_eq] at h1
    omega
theorem idx_pos : ∀ {l : List UInt8} {m : Nat}, Lib.indexByte l 46 = m → m < l.length ∧ splitL l = l.take m :: splitL (l.drop (m + 1)) ∧ Lib.countByte l 46 = Lib.countByte (l.drop (m + 1)) 46 + 1
 | [], m, h => by simp [Lib.indexByte] at h
 | c :: l, m, h => by
  unfold Lib.indexByte at h
  by_cases hc : c = 46
  ·subst hc
   simp only [beq_self_eq_true, if_true] at h
   obtain rfl : m = 0 := by omega
   refine ⟨by simp, by simp [splitL], ?_⟩
   unfold Lib.countByte
   simp
  ·have hb : (c == 46) = false := by simp [hc]
   rw [hb] at h
   simp only [Bool.false_eq_true, if_false] at h
   split at h
   ·omega
   ·rename_i h1
    simp only [beq_iff_eq] at h1
    have hge := Lib.indexByte_ge l 46
    obtain ⟨k, rfl⟩ : ∃ k, m = k + 1 := ⟨m - 1, by omega⟩
    obtain ⟨i1, i2, i3⟩ := idx_pos (l := l) (m := k) (by omega)
    refine ⟨by simp; omega, ?_, ?_⟩
    ·simp only [splitL, hc, if_false, i2, List.take_succ_cons, List.drop_succ_cons]
    ·unfold Lib.countByte at i3 ⊢
     rw [List.count_cons, hb, List.drop_succ_cons]
     simpa using i3
theorem splitL_len : ∀ l : List UInt8, (splitL l).length = Lib.countByte l 46 + 1
 | [] => rfl
 | c :: l => by
  have ih := splitL_len l
  unfold Lib.countByte at ih ⊢
  rw [List.count_cons]
  by_cases hc : c = 46
  ·subst hc; simp [splitL, ih]
  ·have hb : (c == 46) = false := by simp [hc]
   simp only [splitL, hc, if_false, hb, Bool.false_eq_true, Nat.add_zero]
   split
   ·rename_i p ps hp
    rw [hp] at ih
    simpa using ih
   ·rename_i hp
    rw [hp] at ih
    simp at ih
theorem pieces_none {r : ByteArray} (h : Lib.countByte r.data.toList 46 = 0) : pieces r = [r] := by
 unfold pieces
 rw [splitL_none h]
 simp
theorem pieces_some {r : ByteArray} {m : Nat} (h : Lib.indexByte r.data.toList 46 = m) : m < r.size ∧ pieces r = r.extract 0 m :: pieces (r.extract (m + 1) r.size) ∧ Lib.countByte r.data.toList 46 = Lib.countByte (r.extract (m + 1) r.size).data.toList 46 + 1 := by
 obtain ⟨h1, h2, h3⟩ := idx_pos h
 have hl : r.data.toList.length = r.size := by rw [Array.length_toList]; rfl
 have e : (r.extract (m + 1) r.size).data.toList = r.data.toList.drop (m + 1) := by rw [ext_list, List.take_of_length_le (by rw [List.length_drop, hl]; omega)]
 refine ⟨by omega, ?_, by rw [e]; exact h3⟩
 unfold pieces
 rw [e, h2, List.map_cons]
 congr 1
 have : (r.extract 0 m).data.toList = r.data.toList.take m := by rw [ext_list, List.drop_zero, Nat.sub_zero]
 rw [← this]
theorem ext_size (s : ByteArray) (a : Nat) : (s.extract a s.size).size = s.size - a := by
 rw [ByteArray.size_extract]; omega
theorem encL_str (l : List ByteArray) : encL l = (l.map Value.string).toArray := rfl
theorem set_take {L : List Value} {k : Nat} {v : Value} (h : k < L.length) : (L.set k v).take (k + 1) = L.take k ++ [v] := by
 rw [List.take_succ_eq_append_getElem (by simpa using h), List.getElem_set_self]
 congr 1
 refine List.ext_getElem? fun i => ?_
 simp only [List.getElem?_take]
 split
 ·rw [List.getElem?_set_ne (by omega)]
 ·rfl
theorem NLs_set {L : List Value} {k : Nat} {v : Value} (h : NLs L) (hv : nl1 v = true) : NLs (L.set k v) := fun u hu => by
 rcases List.mem_or_eq_of_mem_set hu with hu | rfl
 ·exact h u hu
 ·exact hv
def c_gs (args : List Value) (Post : Value → Prop) : Prop := ∃ s : ByteArray, args = [.string s, .string dot, .int .i64 0, .int .i64 (-1)] ∧ s.size < 16777216 ∧ Post (tree 1 (pieces s).length (encL (pieces s)))
theorem ok_gs : EntOk Tryz.prog ⟨193, c_gs⟩ := by
 rintro args Post ⟨s, rfl, hs, h⟩
 refine pure_P (vc := callSp) callSp_ok mixed (by kernel_rfl) (by kernel_rfl) _ (e_gs s _ _) ?_
 have hcl : Lib.countByte s.data.toList 46 ≤ s.size := by
  have h1 := List.count_le_length (a := (46 : UInt8)) (l := s.data.toList)
  have hl : s.data.toList.length = s.size := by rw [Array.length_toList]; rfl
  unfold Lib.countByte
  omega
 have hlen : (pieces s).length = Lib.countByte s.data.toList 46 + 1 := by unfold pieces; rw [List.length_map, splitL_len]
 have key : ∀ (n k : Nat) (r : ByteArray) (done : List ByteArray) (L : List Value), n + k = Lib.countByte s.data.toList 46 → done.length = k → done ++ pieces r = pieces s → L.length = Lib.countByte s.data.toList 46 + 1 → L.take k = done.map Value.string → NLs L → k + Lib.countByte r.data.toList 46 = Lib.countByte s.data.toList 46 → r.size ≤ s.size →
   OkP 193 [.string s, .string dot, .int .i64 0, .int .i64 (-1)] 11 Post (stV [(0, some (.string r)), (1, some (.string dot)), (2, some (.int .i64 0)), (3, some (.int .i64 (Lib.countByte s.data.toList 46 : Nat))), (9, some (.slice (some ⟨0, 0, none⟩) (Lib.countByte s.data.toList 46 + 1) 1)), (10, some (.int .i64 k))] [(0, some (.cells L true))] 1) := by
  intro n
  induction n with
  | zero =>
   intro k r done L hk hd hp hL ht hn hr hrs
   have hc0 : Lib.countByte r.data.toList 46 = 0 := by omega
   refine ok_P (vc := callSp) callSp_ok mixed _ (l_gs s r L _ _ _ _ _) ?_
   simp only [true_and]
   refine pIf_intro (fun hh => ?_) (fun _ => ?_)
   ·have := of_decide_eq_true hh; omega
   rw [wrapSucc (by omega)]
   have eN : ((k + 1 : Nat) : Int).toNat = k + 1 := by omega
   have ek : (k : Int).toNat = k := by omega
   have eset : setFrom L (0 + (k : Int).toNat * 1) [Value.string r] = L.set k (.string r) := by rw [ek, Nat.zero_add, Nat.mul_one]; rfl
   rw [eset, eN, List.drop_zero, Nat.sub_zero]
   have epc : pieces s = done ++ [r] := by rw [← hp, pieces_none hc0]
   have efin : chunks 1 (k + 1) (L.set k (.string r)) = encL (pieces s) := by
    show ((L.set k (Value.string r)).take (k + 1)).toArray = _
    rw [set_take (by omega), ht, epc, encL_str, List.map_append]
    rfl
   rw [efin]
   have elen : (pieces s).length = k + 1 := by rw [hlen]; omega
   rw [elen] at h
   refine ⟨⟨by omega, by omega⟩, by rw [ek]; omega, ⟨by omega, by omega, by omega⟩, ⟨by rw [List.length_set]; omega, NLs_set hn rfl⟩, ?_⟩
   exact h
  | succ n ih =>
   intro k r done L hk hd hp hL ht hn hr hrs
   refine ok_P (vc := callSp) callSp_ok mixed _ (l_gs s r L _ _ _ _ _) ?_
   simp only [true_and]
   have eN : ((k + 1 : Nat) : Int).toNat = k + 1 := by omega
   have ek : (k : Int).toNat = k := by omega
   refine pIf_intro (fun _ => ?_) (fun hh => ?_)
   case refine_2 => have := of_decide_eq_false hh; omega
   have eset : ∀ v, setFrom L (0 + (k : Int).toNat * 1) [v] = L.set k v := fun v => by rw [ek, Nat.zero_add, Nat.mul_one]; rfl
   simp only [eset]
   rw [wrapSucc (by omega)]
   have step : ∀ m : Nat, Lib.indexByte r.data.toList 46 = m → OkP 193 [.string s, .string dot, .int .i64 0, .int .i64 (-1)] 11 Post (stV [(0, some (.string (r.extract (m + 1) r.size))), (1, some (.string dot)), (2, some (.int .i64 0)), (3, some (.int .i64 (Lib.countByte s.data.toList 46 : Nat))), (9, some (.slice (some ⟨0, 0, none⟩) (Lib.countByte s.data.toList 46 + 1) 1)), (10, some (.int .i64 ((k + 1 : Nat) : Int)))] [(0, some (.cells (L.set k (.string (r.extract 0 m))) true))] 1) := fun m hm => by
    obtain ⟨g1, g2, g3⟩ := pieces_some hm
    refine ih (k + 1) _ (done ++ [r.extract 0 m]) _ (by omega) (by simp [hd]) (by rw [← hp, g2]; simp) (by rw [List.length_set]; exact hL) ?_ (NLs_set hn rfl) (by omega) ?_
    ·rw [set_take (by omega), ht, List.map_append]; rfl
    ·have := ext_size r (m + 1)
     omega
   have hz : (IntKind.i64.wrap (0 + 0)) = 0 := by decide
   refine pIf_intro (fun hh => ?_) (fun hh => ?_)
   ·obtain rfl := of_decide_eq_true hh
    have hm : Lib.indexByte dot.data.toList 46 = ((0 : Nat) : Int) := by decide
    have := step 0 hm
    refine ⟨⟨by decide, by decide, by decide⟩, ⟨by omega, by omega⟩, by rw [ek]; omega, ⟨by decide, by decide, by decide⟩, ⟨NLs_set hn rfl, trivial⟩, this⟩
   ·refine ⟨⟨by decide, by decide⟩, by decide, pIf_intro (fun hm => ?_) (fun hm => ?_)⟩
    ·have h1 := idx_neg (of_decide_eq_true hm)
     omega
    ·have h1 := of_decide_eq_false hm
     obtain ⟨m, hm'⟩ : ∃ m : Nat, Lib.indexByte r.data.toList 46 = m := ⟨(Lib.indexByte r.data.toList 46).toNat, by omega⟩
     obtain ⟨g1, g2, g3⟩ := pieces_some hm'
     have w0 : IntKind.i64.wrap ((m : Int) + 0) = m := by rw [Int.add_zero]; exact wrapNat (by omega)
     have w1 : IntKind.i64.wrap ((m : Int) + 1) = ((m + 1 : Nat) : Int) := wrapSucc (by omega)
     rw [hm', w0]
     rw [w1]
     have em : (m : Int).toNat = m := by omega
     have em1 : ((m + 1 : Nat) : Int).toNat = m + 1 := by omega
     rw [em, em1]
     refine ⟨⟨by omega, by omega, by omega⟩, ⟨by omega, by omega⟩, by rw [ek]; omega, ⟨by omega, by omega, by omega⟩, ⟨NLs_set hn rfl, trivial⟩, step m hm'⟩
 have e1 : (if IntKind.i64.wrap ((s.size : Int) + 1) < IntKind.i64.wrap (((Lib.countByte s.data.toList 46 : Nat) : Int) + 1) then IntKind.i64.wrap ((s.size : Int) + 1) else IntKind.i64.wrap (((Lib.countByte s.data.toList 46 : Nat) : Int) + 1)) = ((Lib.countByte s.data.toList 46 + 1 : Nat) : Int) := by
  rw [wrap64 (by omega) (by omega), wrap64 (by omega) (by omega)]
  split <;> omega
 simp only [true_and]
 rw [e1]
 have e2 : ((Lib.countByte s.data.toList 46 + 1 : Nat) : Int).toNat = Lib.countByte s.data.toList 46 + 1 := by omega
 have e3 : IntKind.i64.wrap (((Lib.countByte s.data.toList 46 + 1 : Nat) : Int) - 1) = ((Lib.countByte s.data.toList 46 : Nat) : Int) := by
  rw [wrap64 (by omega) (by omega)]; omega
 rw [e2, e3]
 have hzl : (zrow (Lib.countByte s.data.toList 46 + 1) [Value.string ⟨#[]⟩]).length = Lib.countByte s.data.toList 46 + 1 := by rw [zrow_len]; simp
 have hnl : NLs (zrow (Lib.countByte s.data.toList 46 + 1) [Value.string ⟨#[]⟩]) := fun v hv => by
  obtain ⟨i, hi, rfl⟩ := List.mem_iff_getElem.1 hv
  have := zrow_get (List.getElem?_eq_getElem hi)
  rw [show i % [Value.string ⟨#[]⟩].length = 0 from Nat.mod_one i] at this
  simp only [List.getElem?_cons_zero, Option.some.injEq] at this
  rw [← this]
  rfl
 refine ⟨⟨by omega, by omega, by omega⟩, ⟨hnl, trivial⟩, ?_⟩
 exact key _ 0 s [] _ (Nat.add_zero _) rfl rfl hzl rfl hnl (Nat.zero_add _) (Nat.le_refl _)
theorem e_isName (s : ByteArray) (H : HT) (Post : PV) : vcP Tryz.prog noCall 192 [(4, [0, 15])] [.string s] H Post = (T2 (True ∧ pIf (decide (s = ByteArray.mk #[])) (T4 (Post (vb false))) (T4 (pIf (decide ((↑s.size : Int) > 16)) (T2 (True ∧ Post (vb false))) (T4 ((True ∧ True) ∧ H (lpC Tryz.prog 192 4) (lpK Tryz.prog 192 4) (stV [(0, some (vs s)), (15, some (pt 0))] [(0, some (AObj.iter s 0))] 1))))))) := by kernel_rfl
theorem l_isName (s : ByteArray) (p : Nat) (H : HT) (Post : PV) : vcLP Tryz.prog noCall 192 [.string s] [(4, [0, 15])] 4 (stV [(0, some (.string s)), (15, some (.pointer (some ⟨0, 0, none⟩)))] [(0, some (.iter s p))] 1) H Post = (let q3 := (↑(Prod.fst (Utf8.decode s p)) : Int); let q8 := stV [(0, some (vs s)), (15, some (pt 0))] [(0, some (AObj.iter s (p + Prod.snd (Utf8.decode s p))))] 1; let q1 := (True ∧ pIf (decide ((↑p : Int) = 0)) (T4 (True ∧ Post (vb false))) (T4 (T2 ((True ∧ True) ∧ H (lpC Tryz.prog 192 4) (lpK Tryz.prog 192 4) q8)))); let q4 := (T4 (pIf (decide (q3 = 45)) (T4 (T2 q1)) (T4 (T2 (True ∧ pIf (decide ((↑p : Int) = 0)) (T4 (True ∧ Post (vb false))) (T4 (T2 (True ∧ Post (vb false))))))))); let q10 := T4 (True ∧ pIf (decide (q3 = 95)) (T8 q1) q4); let q2 := True ∧ (True ∧ True) ∧ H (lpC Tryz.prog 192 4) (lpK Tryz.prog 192 4) q8; let q7 := T4 (pIf (decide (q3 = 45)) (T4 (T2 q2)) (T4 (T2 q2))); let q9 := T2 (True ∧ pIf (decide (q3 ≤ 57)) (T8 (T2 q2)) (T4 (pIf (decide (q3 = 95)) (T8 q2) q7))); let q6 := T2 (True ∧ pIf (decide (q3 ≤ 57)) (T8 (T2 q1)) (T4 (pIf (decide (q3 = 95)) (T8 q1) q4))); let q5 := T2 (True ∧ pIf (decide (q3 ≤ 122)) (T4 (True ∧ pIf (decide (q3 ≥ 48)) q9 (T4 (True ∧ pIf (decide (q3 = 95)) (T8 q2) q7)))) (T4 (True ∧ pIf (decide (q3 ≥ 48)) q6 q10))); pIf (decide (p < s.size)) (T4 (T2 (True ∧ pIf (decide (q3 ≥ 65)) (T2 (True ∧ pIf (decide (q3 ≤ 90)) (T4 (T2 (pIf (decide (q3 ≥ 48)) q9 (T4 (True ∧ pIf (decide (q3 = 95)) (T8 q2) q7))))) (T4 (pIf (decide (q3 ≥ 97)) q5 (T4 (T2 (pIf (decide (q3 ≥ 48)) q6 q10))))))) (T4 (True ∧ pIf (decide (q3 ≥ 97)) q5 (T4 (T2 (pIf (decide (q3 ≥ 48)) q6 q10)))))))) (T2 (True ∧ Post (vb true)))) := by kernel_rfl
def byteI (s : ByteArray) (i : Nat) : Int := ((s.data.getD i 0).toNat : Int)
def ltr (c : Int) : Prop := 97 ≤ c ∧ c ≤ 122 ∨ 65 ≤ c ∧ c ≤ 90
def nchr (c : Int) : Prop := ltr c ∨ 48 ≤ c ∧ c ≤ 57 ∨ c = 95 ∨ c = 45
instance (c : Int) : Decidable (ltr c) := by unfold ltr; infer_instance
instance (c : Int) : Decidable (nchr c) := by unfold nchr; infer_instance
def nameOk (s : ByteArray) : Prop := 1 ≤ s.size ∧ s.size ≤ 16 ∧ ltr (byteI s 0) ∧ ∀ i, i < s.size → nchr (byteI s i)
instance (s : ByteArray) : Decidable (nameOk s) := by unfold nameOk; infer_instance
def c_name (args : List Value) (Post : Value → Prop) : Prop := match args with
 | [.string s] => Post (.bool (decide (nameOk s)))
 | _ => False
theorem dec_low {s : ByteArray} {p : Nat} (h : p < s.size) (hb : byteI s p < 128) : ((Utf8.decode s p).1 : Int) = byteI s p ∧ (Utf8.decode s p).2 = 1 := by
 have e : s.data.getD p 0 = s[p]'h := by
  have h' : p < s.data.size := h
  unfold Array.getD
  rw [dif_pos h']
  rfl
 have hb' : (s[p]'h).toNat < 128 := by unfold byteI at hb; rw [e] at hb; omega
 rw [decode_ascii s p h hb']
 unfold byteI
 rw [e]
 exact ⟨rfl, rfl⟩
theorem dec_high {s : ByteArray} {p : Nat} (h : p < s.size) (hb : 128 ≤ byteI s p) : 128 ≤ ((Utf8.decode s p).1 : Int) := by
 have e : s.data.getD p 0 = s[p]'h := by
  have h' : p < s.data.size := h
  unfold Array.getD
  rw [dif_pos h']
  rfl
 have hb' : 128 ≤ (s[p]'h).toNat := by unfold byteI at hb; rw [e] at hb; omega
 have := (decode_high s p h hb').1
 omega
theorem size_zero {s : ByteArray} (h : s.size = 0) : s = ⟨#[]⟩ := by
 refine ba_ext ?_
 have : s.data.toList.length = 0 := by rw [Array.length_toList]; exact h
 rw [List.length_eq_zero_iff.1 this]
theorem ok_name : EntOk Tryz.prog ⟨192, c_name⟩ := by
 intro args Post h
 unfold c_name at h
 dsimp only at h
 split at h
 case h_2 => exact h.elim
 rename_i s
 refine pure_P (vc := noCall) noCall_ok mixed (by kernel_rfl) (by kernel_rfl) _ (e_isName s _ _) ?_
 have no : ¬ nameOk s → Post (.bool false) := fun hn => of_b h (decide_eq_false hn)
 simp only [true_and, and_true, pIf_iff, decide_eq_true_eq, decide_eq_false_iff_not]
 refine ⟨fun h0 => no fun f => ?_, fun h0 => ⟨fun h1 => no fun f => ?_, fun h1 => ?_⟩⟩
 ·rw [h0] at f; exact absurd f.1 (by decide)
 ·have := f.2.1; omega
 have hs0 : s.size ≠ 0 := fun h' => h0 (size_zero h')
 refine down (n := s.size) (p := fun k => (∀ i, i < k → nchr (byteI s i)) → (0 < k → ltr (byteI s 0)) → OkP 192 [.string s] 4 Post (stV [(0, some (.string s)), (15, some (.pointer (some ⟨0, 0, none⟩)))] [(0, some (.iter s k))] 1)) (fun hall hl => ?_) (fun k hk ih hall hl => ?_) (fun i hi => by omega) (fun h => by omega)
 ·refine ok_P (vc := noCall) noCall_ok mixed _ (l_isName s _ _ _) ?_
  have hy : Post (.bool true) := of_b h (decide_eq_true ⟨by omega, by omega, hl (by omega), hall⟩)
  refine pIf_intro (fun hh => absurd (of_decide_eq_true hh) (Nat.lt_irrefl _)) (fun _ => ?_)
  simp only [true_and, and_true]
  exact hy
 ·refine ok_P (vc := noCall) noCall_ok mixed _ (l_isName s _ _ _) ?_
  refine pIf_intro (fun _ => ?_) (fun hh => absurd hk (of_decide_eq_false hh))
  have hX : nchr (byteI s k) → (k = 0 → ltr (byteI s k)) → ((Utf8.decode s k).2 = 1) → OkP 192 [.string s] 4 Post (stV [(0, some (.string s)), (15, some (.pointer (some ⟨0, 0, none⟩)))] [(0, some (.iter s (k + (Utf8.decode s k).2)))] 1) := fun h1 h2 h3 => by
   rw [h3]
   refine ih (fun i hi => ?_) (fun _ => ?_)
   ·rcases Nat.lt_or_ge i k with h' | h'
    ·exact hall i h'
    ·obtain rfl : i = k := by omega
     exact h1
   ·rcases Nat.eq_zero_or_pos k with h' | h'
    ·subst h'; exact h2 rfl
    ·exact hl h'
  have hY : ¬ (nchr (byteI s k) ∧ (k = 0 → ltr (byteI s k))) → Post (.bool false) := fun hn => no fun f => hn ⟨f.2.2.2 k hk, fun hk0 => by subst hk0; exact f.2.2.1⟩
  change _ → _ → _ → OkAt _ _ _ _ _ _ _ at hX
  have hlow := dec_low hk
  have hhigh := dec_high hk
  generalize (Utf8.decode s k).2 = wd at hX hlow hhigh ⊢
  generalize ((Utf8.decode s k).1 : Int) = d at hX hlow hhigh ⊢
  unfold nchr ltr at hX hY
  generalize byteI s k = c at hX hY hlow hhigh
  simp only [true_and, and_true, pIf_iff, decide_eq_true_eq, decide_eq_false_iff_not, Bool.not_eq_eq_eq_not, Bool.not_true, Bool.not_false]
  by_cases hc : c < 128
  ·obtain ⟨rfl, rfl⟩ := hlow hc
   repeat' (first
    | exact hX (by omega) (by omega) rfl
    | exact hY (by omega)
    | refine And.intro ?_ ?_
    | omega
    | intro _)
  ·have hd := hhigh (by omega)
   have hyy := hY (by omega)
   repeat' (first
    | exact hyy
    | refine And.intro ?_ ?_
    | omega
    | intro _)
def volL (l : List ByteArray) : Nat := (l.map ByteArray.size).sum
theorem volL_take (l : List ByteArray) (i : Nat) : volL (l.take i) ≤ volL l := by
 have h := congrArg volL (List.take_append_drop i l)
 have e : volL (l.take i ++ l.drop i) = volL (l.take i) + volL (l.drop i) := by unfold volL; rw [List.map_append, List.sum_append]
 omega
theorem cell_str {l : List ByteArray} {i : Nat} (h : i < l.length) : cellAt (encL l) i 0 = .string l[i] := by
 rw [cellAt_encL' h]
 rfl
theorem e_split (s : ByteArray) (H : HT) (Post : PV) : vcP Tryz.prog (tabCall [⟨193, c_gs⟩] noCall) 118 [] [.string s, .string dot] H Post = (T2 (True ∧ ∃ (s_1 : ByteArray), eqL [vs s, vs dot, vi 0, vi (-1)] [vs s_1, vs dot, vi 0, vi (-1)] ∧ s_1.size < 16777216 ∧ T2 (Post (tree 1 (List.length (pieces s_1)) (encL (pieces s_1)))))) := by kernel_rfl
def tabN : List Ent := [⟨192, c_name⟩]
theorem e_names (n : Nat) (A : Array Value) (H : HT) (Post : PV) : vcP Tryz.prog (tabCall tabN noCall) 117 [(3, [0, 3, 9, 10, 11])] [tree 1 n A] H Post = (T8 (T2 (H (lpC Tryz.prog 117 3) (lpK Tryz.prog 117 3) (stV [(0, some (tree 1 n A)), (3, some (vi (IntKind.wrap IntKind.i64 ((↑n : Int) - 1)))), (9, some (tree 1 n A)), (10, some (vi (↑n : Int))), (11, some (vi 0))] [] 0)))) := by kernel_rfl
theorem l_names (n : Nat) (A : Array Value) (b i : Int) (H : HT) (Post : PV) : vcLP Tryz.prog (tabCall tabN noCall) 117 [tree 1 n A] [(3, [0, 3, 9, 10, 11])] 3 (stV [(0, some (tree 1 n A)), (3, some (.int .i64 b)), (9, some (tree 1 n A)), (10, some (.int .i64 n)), (11, some (.int .i64 i))] [] 0) H Post = (True ∧ pIf (decide (i < (↑n : Int))) ((0 ≤ i ∧ i < (↑n : Int)) ∧ cellAt A (Int.toNat i) 0 = vs (toS (cellAt A (Int.toNat i) 0)) ∧ T2 (pIf (decide (nameOk (toS (cellAt A (Int.toNat i) 0)))) (T8 (T2 (H (lpC Tryz.prog 117 3) (lpK Tryz.prog 117 3) (stV [(0, some (tree 1 n A)), (3, some (vi (IntKind.wrap IntKind.i64 (b + (↑(ByteArray.size (toS (cellAt A (Int.toNat i) 0))) : Int))))), (9, some (tree 1 n A)), (10, some (vi (↑n : Int))), (11, some (vi (IntKind.wrap IntKind.i64 (i + 1))))] [] 0)))) (T2 (True ∧ Post (vb false))))) (T2 (True ∧ pIf (decide ((↑n : Int) ≥ 1)) (T4 (pIf (decide ((↑n : Int) ≤ 8)) (T4 (pIf (decide (b ≤ 64)) (T2 (True ∧ Post (vb true))) (T2 (True ∧ Post (vb false))))) (T4 (True ∧ Post (vb false))))) (T4 (T2 (Post (vb false))))))) := by kernel_rfl
def c_split (args : List Value) (Post : Value → Prop) : Prop := ∃ s : ByteArray, args = [.string s, .string dot] ∧ s.size < 16777216 ∧ Post (tree 1 (pieces s).length (encL (pieces s)))
theorem ok_split : EntOk Tryz.prog ⟨118, c_split⟩ := by
 rintro args Post ⟨s, rfl, hs, h⟩
 refine pure_P (vc := tabCall [⟨193, c_gs⟩] noCall) (tabCall_ok (by
  intro e he
  simp only [List.mem_cons, List.not_mem_nil, or_false] at he
  subst he
  exact ok_gs) noCall_ok) mixed (by kernel_rfl) (by kernel_rfl) _ (e_split s _ _) ?_
 repeat (first | exact ⟨s, rfl, hs, by repeat (first | exact h | refine And.intro trivial ?_)⟩ | refine And.intro trivial ?_)
theorem pieces_ne (s : ByteArray) : pieces s ≠ [] := fun h => by
 have := congrArg List.length h
 unfold pieces at this
 rw [List.length_map, splitL_len] at this
 simp at this
def namesOk (l : List ByteArray) : Prop := 1 ≤ l.length ∧ l.length ≤ 8 ∧ (∀ p ∈ l, nameOk p) ∧ l.length + volL l ≤ 65
instance (l : List ByteArray) : Decidable (namesOk l) := by unfold namesOk; infer_instance
def c_names (args : List Value) (Post : Value → Prop) : Prop := ∃ l : List ByteArray, args = [tree 1 l.length (encL l)] ∧ l.length + volL l ≤ 16777216 ∧ Post (.bool (decide (namesOk l)))
theorem volL_tk (l : List ByteArray) (k : Nat) (h : k < l.length) : volL (l.take (k + 1)) = volL (l.take k) + l[k].size := by
 unfold volL
 rw [List.take_succ_eq_append_getElem h, List.map_append, List.sum_append]
 simp
theorem ok_names : EntOk Tryz.prog ⟨117, c_names⟩ := by
 rintro args Post ⟨l, rfl, hv, h⟩
 have hok : VCallOk Tryz.prog (tabCall tabN noCall) := tabCall_ok (by
  intro e he
  simp only [tabN, List.mem_cons, List.not_mem_nil, or_false] at he
  subst he
  exact ok_name) noCall_ok
 refine pure_P (vc := tabCall tabN noCall) hok mixed (by kernel_rfl) (by kernel_rfl) _ (e_names _ _ _ _) ?_
 have no : ¬ namesOk l → Post (.bool false) := fun hn => of_b h (decide_eq_false hn)
 simp only [true_and]
 have key := down (n := l.length) (p := fun k => (∀ i (hi : i < l.length), i < k → nameOk l[i]) → OkP 117 [tree 1 l.length (encL l)] 3 Post (stV [(0, some (tree 1 l.length (encL l))), (3, some (.int .i64 ((l.length : Int) - 1 + (volL (l.take k) : Nat)))), (9, some (tree 1 l.length (encL l))), (10, some (.int .i64 l.length)), (11, some (.int .i64 k))] [] 0)) (fun hall => ?_) (fun k hk ih hall => ?_) (fun i hi h0 => by omega)
 ·rw [wrap64 (by omega) (by omega)]
  have e : ((l.length : Int) - 1 + ((volL (l.take 0) : Nat) : Int)) = (l.length : Int) - 1 := by simp [volL]
  rw [e] at key
  exact key
 ·refine ok_P (vc := tabCall tabN noCall) hok mixed _ (l_names _ _ _ _ _ _) ?_
  simp only [true_and]
  have hall' : ∀ p ∈ l, nameOk p := fun p hp => by
   obtain ⟨i, hi, rfl⟩ := List.mem_iff_getElem.1 hp
   exact hall i hi hi
  refine pIf_intro (fun hh => by have := of_decide_eq_true hh; omega) (fun _ => ?_)
  rw [List.take_of_length_le (Nat.le_refl _)]
  refine pIf_intro (fun h1 => ?_) (fun h1 => no fun f => absurd f.1 (by have := of_decide_eq_false h1; omega))
  refine pIf_intro (fun h2 => ?_) (fun h2 => no fun f => absurd f.2.1 (by have := of_decide_eq_false h2; omega))
  have h1 := of_decide_eq_true h1
  have h2 := of_decide_eq_true h2
  exact pIf_intro (fun h3 => of_b h (decide_eq_true ⟨by omega, by omega, hall', by have := of_decide_eq_true h3; omega⟩)) (fun h3 => no fun f => absurd f.2.2.2 (by have := of_decide_eq_false h3; omega))
 ·refine ok_P (vc := tabCall tabN noCall) hok mixed _ (l_names _ _ _ _ _ _) ?_
  have ek : ((k : Nat) : Int).toNat = k := by omega
  simp only [true_and, ek, cell_str hk, toS]
  refine pIf_intro (fun _ => ?_) (fun hh => by have := of_decide_eq_false hh; omega)
  refine ⟨⟨by omega, by omega⟩, pIf_intro (fun hn => ?_) (fun hn => no fun f => absurd (f.2.2.1 _ (List.getElem_mem hk)) (of_decide_eq_false hn))⟩
  have hv1 := volL_tk l k hk
  have hv2 := volL_take l (k + 1)
  have ew : IntKind.i64.wrap ((l.length : Int) - 1 + ((volL (l.take k) : Nat) : Int) + (l[k].size : Int)) = (l.length : Int) - 1 + ((volL (l.take (k + 1)) : Nat) : Int) := by
   rw [wrap64 (by omega) (by omega)]; omega
  rw [ew, wrapSucc (by omega)]
  exact ih fun i hi hik => by
   rcases Nat.lt_or_ge i k with h' | h'
   ·exact hall i hi h'
   ·obtain rfl : i = k := by omega
    exact of_decide_eq_true hn
def idOk (s : ByteArray) : Prop := s.size ≤ 64 ∧ (pieces s).length ≤ 8 ∧ ∀ p ∈ pieces s, nameOk p
instance (s : ByteArray) : Decidable (idOk s) := by unfold idOk; infer_instance
theorem pieces_vol (s : ByteArray) : (pieces s).length + volL (pieces s) = s.size + 1 := by
 have key : ∀ l : List UInt8, (splitL l).length + ((splitL l).map List.length).sum = l.length + 1 := by
  intro l
  induction l with
  | nil => rfl
  | cons c l ih =>
   by_cases hc : c = 46
   ·subst hc
    simp only [splitL, if_true, List.length_cons, List.map_cons, List.sum_cons, List.length_nil]
    omega
   ·simp only [splitL, hc, if_false]
    split
    ·rename_i p ps hp
     rw [hp] at ih
     simp only [List.length_cons, List.map_cons, List.sum_cons] at ih ⊢
     omega
    ·rename_i hp
     rw [hp] at ih
     simp at ih
 have h := key s.data.toList
 have hl : s.data.toList.length = s.size := by rw [Array.length_toList]; rfl
 unfold pieces volL
 rw [List.length_map, List.map_map, ← hl]
 have e : (List.map (ByteArray.size ∘ fun l => (⟨l.toArray⟩ : ByteArray)) (splitL s.data.toList)) = (splitL s.data.toList).map List.length := List.map_congr_left fun l _ => by simp [ByteArray.size]
 rw [e]
 exact h
def tabId : List Ent := [⟨118, c_split⟩, ⟨117, c_names⟩]
theorem e_id (s : ByteArray) (H : HT) (Post : PV) : vcP Tryz.prog (tabCall tabId noCall) 46 [] [.string s] H Post = (T4 (pIf (decide ((↑s.size : Int) ≤ 64)) (T2 (∃ (s_1 : ByteArray), eqL [vs s, vs (ByteArray.mk #[46])] [vs s_1, vs dot] ∧ s_1.size < 16777216 ∧ ∃ (l : List ByteArray), eqL [tree 1 (List.length (pieces s_1)) (encL (pieces s_1))] [tree 1 l.length (encL l)] ∧ List.length l + volL l ≤ 16777216 ∧ pIf (decide (namesOk l)) (T2 (True ∧ Post (vb true))) (T2 (True ∧ Post (vb false))))) (T4 (Post (vb false))))) := by kernel_rfl
end Go.Proofs.YtngginofamlkkaaGreatDoor
