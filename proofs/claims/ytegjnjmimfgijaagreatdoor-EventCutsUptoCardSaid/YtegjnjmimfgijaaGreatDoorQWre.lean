/-
  Put together out of several texts, each in its own namespace's block. Conditions: as each theorem states them.
-/
import Derived.Test.YtegjnjmimfgijaaGreatDoorQVc
import Derived.Test.YtegjnjmimfgijaaGreatDoorQPk
import Derived.Test.YtegjnjmimfgijaaGreatDoorQOd
import Derived.Laws.RangeAny
import Derived.Test.YtegjnjmimfgijaaGreatDoorQVa
import Derived.Test.YtegjnjmimfgijaaGreatDoorQBld
noncomputable section
namespace Go.Proofs.YtegjnjmimfgijaaGreatDoor
open Go Go.RowKit
set_option maxRecDepth 100000
set_option maxHeartbeats 8000000
theorem e_yTxs (s : ByteArray) (e m : Nat) (H : HT) (Post : PI) : vcI Tryz.prog callY 154 [(2, [0, 4, 7, 8])] [[.string s, .int .i64 (.ofNat e)]] [ptr0, .int .i64 (.ofNat m)] H Post = (T2 (True ∧ true = true ∧ s.size < 4611686018427387904 ∧ m < 4611686018427387904 ∧ ∀ (v : Nat) (r : ByteArray) (e' : Nat), GotB s e (bList v) r e' → v ≤ m → 1 = 1 ∧ T2 ((NLs [vs r, vi (Int.ofNat e')] ∧ True) ∧ H (lpC Tryz.prog 154 2) (lpK Tryz.prog 154 2) (stV [(0, some (pt 0)), (4, some (nS)), (7, some (vi (Int.ofNat v))), (8, some (vi 0))] [(0, some (AObj.cells [vs r, vi (Int.ofNat e')] true))] 1)))) := by kernel_rfl
theorem l_yTxs0 (s : ByteArray) (e m : Nat) (n i : Int) (H : HT) (Post : PI) : vcLI Tryz.prog callY 154 [ptr0, .int .i64 (.ofNat m)] [(2, [0, 4, 7, 8])] 1 2 (stV [(0, some ptr0), (4, some (.slice none 0 0)), (7, some (.int .i64 n)), (8, some (.int .i64 i))] [(0, some (.cells [.string s, .int .i64 (.ofNat e)] true))] 1) H Post = (True ∧ pIf (decide (i < n)) (T4 (true = true ∧ s.size < 4611686018427387904 ∧ 64 < 4611686018427387904 ∧ ∀ (v r : ByteArray) (e' : Nat), GotB s e (bText v) r e' → v.size ≤ 64 → 1 = 1 ∧ T2 (1 ≤ 1 ∧ 1 ≤ 33554432 ∧ true = true ∧ 1 = 1 ∧ T4 ((NLs [vs r, vi (Int.ofNat e')] ∧ NLs [vs v] ∧ True) ∧ H (lpC Tryz.prog 154 2) (lpK Tryz.prog 154 2) (stV [(0, some (pt 0)), (4, some (Value.slice (some (Addr.mk 1 0 none)) 1 1)), (7, some (vi n)), (8, some (vi (IntKind.wrap IntKind.i64 (i + 1))))] [(0, some (AObj.cells [vs r, vi (Int.ofNat e')] true)), (1, some (AObj.cells [vs v] true))] 2))))) (T2 (True ∧ true = true ∧ Post (tree 1 0 #[]) [[vs s, vi (Int.ofNat e)]]))) := by kernel_rfl
theorem l_yTxs1 (s : ByteArray) (e m k : Nat) (n i : Int) (l : List Value) (H : HT) (Post : PI) : vcLI Tryz.prog callY 154 [ptr0, .int .i64 (.ofNat m)] [(2, [0, 4, 7, 8])] 1 2 (stV [(0, some ptr0), (4, some (.slice (some ⟨1, 0, none⟩) k 1)), (7, some (.int .i64 n)), (8, some (.int .i64 i))] [(0, some (.cells [.string s, .int .i64 (.ofNat e)] true)), (1, some (.cells l true))] 2) H Post = (True ∧ pIf (decide (i < n)) (T4 (true = true ∧ s.size < 4611686018427387904 ∧ 64 < 4611686018427387904 ∧ ∀ (v r : ByteArray) (e' : Nat), GotB s e (bText v) r e' → v.size ≤ 64 → 1 = 1 ∧ T2 (1 ≤ 1 ∧ k + 1 ≤ 33554432 ∧ true = true ∧ 1 = 1 ∧ 0 + k * 1 = List.length l ∧ T4 ((NLs [vs r, vi (Int.ofNat e')] ∧ NLs (l ++ [vs v]) ∧ True) ∧ H (lpC Tryz.prog 154 2) (lpK Tryz.prog 154 2) (stV [(0, some (pt 0)), (4, some (Value.slice (some (Addr.mk 1 0 none)) (k + 1) 1)), (7, some (vi n)), (8, some (vi (IntKind.wrap IntKind.i64 (i + 1))))] [(0, some (AObj.cells [vs r, vi (Int.ofNat e')] true)), (1, some (AObj.cells (l ++ [vs v]) true))] 2))))) (T2 ((0 + k * 1 ≤ List.length l ∧ NLs l) ∧ true = true ∧ Post (tree 1 k (chunks 1 k (List.drop 0 l))) [[vs s, vi (Int.ofNat e)]]))) := by kernel_rfl
abbrev trStr (l : List ByteArray) : Value := tree 1 l.length (encL l)
def y_S (args : List Value) (conts : List (List Value)) (Post : Value → List (List Value) → Prop) : Prop := match args, conts with
 | [.pointer (some ⟨0, 0, none⟩), .int .i64 (.ofNat m)], [[.string s, .int .i64 (.ofNat e)]] => s.size < 4611686018427387904 ∧ m < 1048576 ∧ ∀ l r e', GotB s e (bStrs l) r e' → l.length ≤ m → (∀ x ∈ l, x.size ≤ 64) → Post (trStr l) [[.string r, .int .i64 (.ofNat e')]]
 | _, _ => False
def callYe : VCall := inlCall Tryz.prog [80, 152, 151] (itabCall (⟨154, y_S⟩ :: ⟨153, y_P⟩ :: tabY) noCall) 3
theorem e_yEdit (s : ByteArray) (e : Nat) (H : HT) (Post : PI) : vcI Tryz.prog callYe 150 [] [[.string s, .int .i64 (.ofNat e)]] [ptr0] H Post = (let q2 := vi 9223372036854775807; let q1 := vi (-9223372036854775808); T4 (true = true ∧ s.size < 4611686018427387904 ∧ toI q1 ≤ -9223372036854775808 ∧ toI q2 ≤ 9223372036854775807 ∧ ∀ (v : Int) (r : ByteArray) (e' : Nat), GotB s e (bInt v) r e' → -9223372036854775808 ≤ v ∧ v < 9223372036854775808 → 1 = 1 ∧ T2 (1 ≤ 38 ∧ T2 (True ∧ true = true ∧ r.size < 4611686018427387904 ∧ 64 < 4611686018427387904 ∧ ∀ (v_1 r_1 : ByteArray) (e'_1 : Nat), GotB r e' (bText v_1) r_1 e'_1 → v_1.size ≤ 64 → 1 = 1 ∧ T4 (true = true ∧ r_1.size < 4611686018427387904 ∧ 64 < 4611686018427387904 ∧ ∀ (v_2 r : ByteArray) (e' : Nat), GotB r_1 e'_1 (bText v_2) r e' → v_2.size ≤ 64 → 1 = 1 ∧ T2 (2 ≤ 38 ∧ True ∧ 3 ≤ 38 ∧ T2 (True ∧ true = true ∧ r.size < 4611686018427387904 ∧ 64 < 4611686018427387904 ∧ ∀ (v_3 r_2 : ByteArray) (e'_2 : Nat), GotB r e' (bText v_3) r_2 e'_2 → v_3.size ≤ 64 → 1 = 1 ∧ T4 (true = true ∧ r_2.size < 4611686018427387904 ∧ toI q1 ≤ -9223372036854775808 ∧ toI q2 ≤ 9223372036854775807 ∧ ∀ (v_4 : Int) (r : ByteArray) (e' : Nat), GotB r_2 e'_2 (bInt v_4) r e' → -9223372036854775808 ≤ v_4 ∧ v_4 < 9223372036854775808 → 1 = 1 ∧ T4 (true = true ∧ r.size < 4611686018427387904 ∧ 64 < 4611686018427387904 ∧ ∀ (v_5 r_3 : ByteArray) (e'_3 : Nat), GotB r e' (bText v_5) r_3 e'_3 → v_5.size ≤ 64 → 1 = 1 ∧ T2 (True ∧ 6 ≤ 38 ∧ True ∧ true = true ∧ r_3.size < 4611686018427387904 ∧ ∀ (p : Part) (r : ByteArray) (e' : Nat), GotB r_3 e'_3 (bPart p) r e' → InPart p → FitP p → 1 = 1 ∧ True ∧ 24 ≤ 38 ∧ T2 (True ∧ true = true ∧ r.size < 4611686018427387904 ∧ 64 < 4611686018427387904 ∧ ∀ (v_6 r_4 : ByteArray) (e'_4 : Nat), GotB r e' (bText v_6) r_4 e'_4 → v_6.size ≤ 64 → 1 = 1 ∧ T4 (true = true ∧ r_4.size < 4611686018427387904 ∧ 64 < 4611686018427387904 ∧ ∀ (v_7 r : ByteArray) (e' : Nat), GotB r_4 e'_4 (bText v_7) r e' → v_7.size ≤ 64 → 1 = 1 ∧ T4 (true = true ∧ r.size < 4611686018427387904 ∧ 64 < 4611686018427387904 ∧ ∀ (v_8 r_5 : ByteArray) (e'_5 : Nat), GotB r e' (bText v_8) r_5 e'_5 → v_8.size ≤ 64 → 1 = 1 ∧ T4 (true = true ∧ r_5.size < 4611686018427387904 ∧ toI q1 ≤ -9223372036854775808 ∧ toI q2 ≤ 9223372036854775807 ∧ ∀ (v_9 : Int) (r : ByteArray) (e' : Nat), GotB r_5 e'_5 (bInt v_9) r e' → -9223372036854775808 ≤ v_9 ∧ v_9 < 9223372036854775808 → 1 = 1 ∧ T4 (true = true ∧ r.size < 4611686018427387904 ∧ toI q1 ≤ -9223372036854775808 ∧ toI q2 ≤ 9223372036854775807 ∧ ∀ (v_10 : Int) (r_6 : ByteArray) (e'_6 : Nat), GotB r e' (bInt v_10) r_6 e'_6 → -9223372036854775808 ≤ v_10 ∧ v_10 < 9223372036854775808 → 1 = 1 ∧ T4 (true = true ∧ r_6.size < 4611686018427387904 ∧ toI q1 ≤ -9223372036854775808 ∧ toI q2 ≤ 9223372036854775807 ∧ ∀ (v_11 : Int) (r : ByteArray) (e' : Nat), GotB r_6 e'_6 (bInt v_11) r e' → -9223372036854775808 ≤ v_11 ∧ v_11 < 9223372036854775808 → 1 = 1 ∧ T2 (True ∧ 30 ≤ 38 ∧ T2 (True ∧ true = true ∧ r.size < 4611686018427387904 ∧ 64 < 4611686018427387904 ∧ ∀ (v_12 r_7 : ByteArray) (e'_7 : Nat), GotB r e' (bText v_12) r_7 e'_7 → v_12.size ≤ 64 → 1 = 1 ∧ T4 (true = true ∧ r_7.size < 4611686018427387904 ∧ 64 < 4611686018427387904 ∧ ∀ (v_13 r : ByteArray) (e' : Nat), GotB r_7 e'_7 (bText v_13) r e' → v_13.size ≤ 64 → 1 = 1 ∧ T2 (true = true ∧ r.size < 4611686018427387904 ∧ 256 < 1048576 ∧ ∀ (l : List ByteArray) (r_8 : ByteArray) (e'_8 : Nat), GotB r e' (bStrs l) r_8 e'_8 → List.length l ≤ 256 → (∀ (x : ByteArray), x ∈ l → x.size ≤ 64) → 1 = 1 ∧ T2 (True ∧ true = true ∧ r_8.size < 4611686018427387904 ∧ toI q1 ≤ -9223372036854775808 ∧ toI q2 ≤ 9223372036854775807 ∧ ∀ (v_14 : Int) (r : ByteArray) (e' : Nat), GotB r_8 e'_8 (bInt v_14) r e' → -9223372036854775808 ≤ v_14 ∧ v_14 < 9223372036854775808 → 1 = 1 ∧ T2 (true = true ∧ r.size < 4611686018427387904 ∧ 64 < 1048576 ∧ ∀ (l_1 : List ByteArray) (r_9 : ByteArray) (e'_9 : Nat), GotB r e' (bStrs l_1) r_9 e'_9 → List.length l_1 ≤ 64 → (∀ (x : ByteArray), x ∈ l_1 → x.size ≤ 64) → 1 = 1 ∧ T2 (35 ≤ 38 ∧ T2 (True ∧ true = true ∧ r_9.size < 4611686018427387904 ∧ toI q1 ≤ -9223372036854775808 ∧ toI q2 ≤ 9223372036854775807 ∧ ∀ (v_15 : Int) (r : ByteArray) (e' : Nat), GotB r_9 e'_9 (bInt v_15) r e' → -9223372036854775808 ≤ v_15 ∧ v_15 < 9223372036854775808 → 1 = 1 ∧ T4 (true = true ∧ r.size < 4611686018427387904 ∧ 64 < 4611686018427387904 ∧ ∀ (v_16 r_10 : ByteArray) (e'_10 : Nat), GotB r e' (bText v_16) r_10 e'_10 → v_16.size ≤ 64 → 1 = 1 ∧ T4 (true = true ∧ r_10.size < 4611686018427387904 ∧ 64 < 4611686018427387904 ∧ ∀ (v_17 r : ByteArray) (e' : Nat), GotB r_10 e'_10 (bText v_17) r e' → v_17.size ≤ 64 → 1 = 1 ∧ T2 (True ∧ 38 ≤ 38 ∧ T8 (T2 (True ∧ pIf (!decide (Int.ofNat e' = 0)) (True ∧ 38 ≤ 38 ∧ (T32 (T4 (T2 (True)))) ∧ true = true ∧ Post (Value.agg #[vi 0, vz, vz, vz, vi 0, vz, vz, vi 0, vi 0, vz, vz, vi 0, tree 2 0 #[], tree 1 0 #[], vz, vi 0, vi 0, vi 0, vi 0, vi 0, vi 0, vi 0, vi 0, vi 0, vz, vz, vz, vi 0, vi 0, vi 0, vz, vz, tree 1 0 #[], vi 0, tree 1 0 #[], vi 0, vz, vz]) [[vs r, vi (Int.ofNat e')]]) (True ∧ 38 ≤ 38 ∧ (T32 (T4 (T2 (True)))) ∧ true = true ∧ Post (Value.agg #[vi v, vs v_1, vs v_2, vs v_3, vi v_4, vs v_5, vs p.id, vi p.rev, vi p.kind, vs p.node, vs p.grade, vi p.thick, tree 2 p.outer.length (encL p.outer), tree 1 p.holes.length (encL p.holes), vs p.sect, vi p.long, vi p.mass, vi p.centre.x, vi p.centre.y, vi p.centre.z, vi p.at_.x, vi p.at_.y, vi p.at_.z, vi p.turn, vs v_6, vs v_7, vs v_8, vi v_9, vi v_10, vi v_11, vs v_12, vs v_13, tree 1 l.length (encL l), vi v_14, tree 1 l_1.length (encL l_1), vi v_15, vs v_16, vs v_17]) [[vs r, vi (Int.ofNat e')]])))))))))))))))))))))))))))))) := by kernel_rfl
structure FitE (x : Edit) : Prop where
 part : FitP x.part
 parts : x.pack.parts.length ≤ 256
 after : x.pack.after.length ≤ 64
 vol : volE x ≤ 30000
def y_E (args : List Value) (conts : List (List Value)) (Post : Value → List (List Value) → Prop) : Prop := match args, conts with
 | [.pointer (some ⟨0, 0, none⟩)], [[.string s, .int .i64 (.ofNat e)]] => s.size < 4611686018427387904 ∧ ∀ x r e', GotB s e (bEdit x) r e' → InEdit x → FitE x → Post (editV x) [[.string r, .int .i64 (.ofNat e')]]
 | _, _ => False
def callYd : VCall := inlCall Tryz.prog [36, 64, 80, 81] (itabCall (⟨150, y_E⟩ :: tabY) noCall) 3
theorem e_yDec (s : ByteArray) (H : HT) (Post : PV) : vcP Tryz.prog callYd 148 [(4, [2, 4, 5, 13, 14])] [.string s] H Post = (T8 (T2 (True ∧ true = true ∧ s.size < 4611686018427387904 ∧ 64 < 4611686018427387904 ∧ ∀ (v r : ByteArray) (e' : Nat), GotB s 0 (bText v) r e' → v.size ≤ 64 → 1 = 1 ∧ T2 (2 ≤ 2 ∧ True ∧ true = true ∧ r.size < 4611686018427387904 ∧ 32 < 4611686018427387904 ∧ ∀ (v_1 : Nat) (r_1 : ByteArray) (e'_1 : Nat), GotB r e' (bList v_1) r_1 e'_1 → v_1 ≤ 32 → 1 = 1 ∧ T2 ((T2 (True ∧ True)) ∧ H (lpC Tryz.prog 148 4) (lpK Tryz.prog 148 4) (stV [(2, some (pt 0)), (4, some (pt 1)), (5, some (pt 2)), (13, some (vi (Int.ofNat v_1))), (14, some (vi 0))] [(0, some (AObj.cells [vz, nS] true)), (1, some (AObj.cells [vs r_1, vi (Int.ofNat e'_1)] true)), (2, some (AObj.cells [vs v, nS] true))] 3)))))) := by kernel_rfl
theorem l_yDec0 (t s id : ByteArray) (e : Nat) (n i : Int) (H : HT) (Post : PV) : vcLP Tryz.prog callYd 148 [.string t] [(4, [2, 4, 5, 13, 14])] 4 (stV [(2, some (.pointer (some ⟨0, 0, none⟩))), (4, some (.pointer (some ⟨1, 0, none⟩))), (5, some (.pointer (some ⟨2, 0, none⟩))), (13, some (.int .i64 n)), (14, some (.int .i64 i))] [(0, some (.cells [.string ⟨#[]⟩, .slice none 0 0] true)), (1, some (.cells [.string s, .int .i64 (.ofNat e)] true)), (2, some (.cells [.string id, .slice none 0 0] true))] 3) H Post = (let q2 := True ∧ 2 ≤ 2 ∧ True ∧ ((T2 (True)) ∧ True ∧ True) ∧ Post (Value.tuple #[Value.agg #[vs id, tree 38 0 #[]], vi 0]); let q1 := T2 (2 ≤ 2 ∧ True ∧ ((T2 (True)) ∧ True ∧ True) ∧ Post (Value.tuple #[Value.agg #[vz, tree 38 0 #[]], vi (Int.ofNat e)])); True ∧ pIf (decide (i < n)) (T2 (True ∧ true = true ∧ s.size < 4611686018427387904 ∧ ∀ (x : Edit) (r : ByteArray) (e' : Nat), GotB s e (bEdit x) r e' → InEdit x → FitE x → 1 = 1 ∧ ((nS = nS ∧ True) ∧ True) ∧ True ∧ 38 ≤ 38 ∧ 1 ≤ 33554432 ∧ true = true ∧ 38 = 38 ∧ T2 (2 ≤ 2 ∧ T4 ((T2 (True ∧ NLs [vi x.kind, vs x.id, vs x.to, vs x.node.id, vi x.node.kind, vs x.node.parent, vs x.part.id, vi x.part.rev, vi x.part.kind, vs x.part.node, vs x.part.grade, vi x.part.thick, tree 2 x.part.outer.length (encL x.part.outer), tree 1 x.part.holes.length (encL x.part.holes), vs x.part.sect, vi x.part.long, vi x.part.mass, vi x.part.centre.x, vi x.part.centre.y, vi x.part.centre.z, vi x.part.at_.x, vi x.part.at_.y, vi x.part.at_.z, vi x.part.turn, vs x.seam.id, vs x.seam.a, vs x.seam.b, vi x.seam.kind, vi x.seam.long, vi x.seam.cls, vs x.pack.id, vs x.pack.block, tree 1 x.pack.parts.length (encL x.pack.parts), vi x.pack.hours, tree 1 x.pack.after.length (encL x.pack.after), vi x.need.kind, vs x.need.block, vs x.need.on] ∧ True)) ∧ H (lpC Tryz.prog 148 4) (lpK Tryz.prog 148 4) (stV [(2, some (pt 0)), (4, some (pt 1)), (5, some (pt 2)), (13, some (vi n)), (14, some (vi (IntKind.wrap IntKind.i64 (i + 1))))] [(0, some (AObj.cells [vz, nS] true)), (1, some (AObj.cells [vs r, vi (Int.ofNat e')] true)), (2, some (AObj.cells [vs id, Value.slice (some (Addr.mk 3 0 none)) 1 38] true)), (3, some (AObj.cells [vi x.kind, vs x.id, vs x.to, vs x.node.id, vi x.node.kind, vs x.node.parent, vs x.part.id, vi x.part.rev, vi x.part.kind, vs x.part.node, vs x.part.grade, vi x.part.thick, tree 2 x.part.outer.length (encL x.part.outer), tree 1 x.part.holes.length (encL x.part.holes), vs x.part.sect, vi x.part.long, vi x.part.mass, vi x.part.centre.x, vi x.part.centre.y, vi x.part.centre.z, vi x.part.at_.x, vi x.part.at_.y, vi x.part.at_.z, vi x.part.turn, vs x.seam.id, vs x.seam.a, vs x.seam.b, vi x.seam.kind, vi x.seam.long, vi x.seam.cls, vs x.pack.id, vs x.pack.block, tree 1 x.pack.parts.length (encL x.pack.parts), vi x.pack.hours, tree 1 x.pack.after.length (encL x.pack.after), vi x.need.kind, vs x.need.block, vs x.need.on] true))] 4))))) (T8 (T4 (T2 (True ∧ pIf (decide (Int.ofNat e = 0)) (T8 (T4 (True ∧ pIf (decide ((↑s.size : Int) > 0)) (T4 (T2 (True ∧ 2 ≤ 2 ∧ True ∧ ((T2 (True)) ∧ True ∧ True) ∧ Post (Value.tuple #[Value.agg #[vz, tree 38 0 #[]], vi 4])))) (T4 (T2 (pIf (!decide (Int.ofNat e = 0)) q1 q2)))))) (T4 (T2 (True ∧ pIf (!decide (Int.ofNat e = 0)) q1 q2)))))))) := by kernel_rfl
theorem l_yDec1 (t s id : ByteArray) (e k : Nat) (n i : Int) (l : List Value) (H : HT) (Post : PV) : vcLP Tryz.prog callYd 148 [.string t] [(4, [2, 4, 5, 13, 14])] 4 (stV [(2, some (.pointer (some ⟨0, 0, none⟩))), (4, some (.pointer (some ⟨1, 0, none⟩))), (5, some (.pointer (some ⟨2, 0, none⟩))), (13, some (.int .i64 n)), (14, some (.int .i64 i))] [(0, some (.cells [.string ⟨#[]⟩, .slice none 0 0] true)), (1, some (.cells [.string s, .int .i64 (.ofNat e)] true)), (2, some (.cells [.string id, .slice (some ⟨3, 0, none⟩) k 38] true)), (3, some (.cells l true))] 4) H Post = (let q2 := T2 (2 ≤ 2 ∧ True ∧ ((T2 (True)) ∧ True ∧ True) ∧ Post (Value.tuple #[Value.agg #[vz, tree 38 0 #[]], vi (Int.ofNat e)])); let q1 := True ∧ 2 ≤ 2 ∧ True ∧ ((True ∧ (0 + k * 38 ≤ List.length l ∧ NLs l) ∧ True) ∧ True ∧ True) ∧ Post (Value.tuple #[Value.agg #[vs id, tree 38 k (chunks 38 k (List.drop 0 l))], vi 0]); True ∧ pIf (decide (i < n)) (T2 (True ∧ true = true ∧ s.size < 4611686018427387904 ∧ ∀ (x : Edit) (r : ByteArray) (e' : Nat), GotB s e (bEdit x) r e' → InEdit x → FitE x → 1 = 1 ∧ ((Value.slice (some (Addr.mk 3 0 none)) k 38 = Value.slice (some (Addr.mk 3 0 none)) k 38 ∧ True) ∧ True) ∧ True ∧ 38 ≤ 38 ∧ k + 1 ≤ 33554432 ∧ true = true ∧ 38 = 38 ∧ 0 + k * 38 = List.length l ∧ T2 (2 ≤ 2 ∧ T4 ((T2 (True ∧ NLs (l ++ [vi x.kind, vs x.id, vs x.to, vs x.node.id, vi x.node.kind, vs x.node.parent, vs x.part.id, vi x.part.rev, vi x.part.kind, vs x.part.node, vs x.part.grade, vi x.part.thick, tree 2 x.part.outer.length (encL x.part.outer), tree 1 x.part.holes.length (encL x.part.holes), vs x.part.sect, vi x.part.long, vi x.part.mass, vi x.part.centre.x, vi x.part.centre.y, vi x.part.centre.z, vi x.part.at_.x, vi x.part.at_.y, vi x.part.at_.z, vi x.part.turn, vs x.seam.id, vs x.seam.a, vs x.seam.b, vi x.seam.kind, vi x.seam.long, vi x.seam.cls, vs x.pack.id, vs x.pack.block, tree 1 x.pack.parts.length (encL x.pack.parts), vi x.pack.hours, tree 1 x.pack.after.length (encL x.pack.after), vi x.need.kind, vs x.need.block, vs x.need.on]) ∧ True)) ∧ H (lpC Tryz.prog 148 4) (lpK Tryz.prog 148 4) (stV [(2, some (pt 0)), (4, some (pt 1)), (5, some (pt 2)), (13, some (vi n)), (14, some (vi (IntKind.wrap IntKind.i64 (i + 1))))] [(0, some (AObj.cells [vz, nS] true)), (1, some (AObj.cells [vs r, vi (Int.ofNat e')] true)), (2, some (AObj.cells [vs id, Value.slice (some (Addr.mk 3 0 none)) (k + 1) 38] true)), (3, some (AObj.cells (l ++ [vi x.kind, vs x.id, vs x.to, vs x.node.id, vi x.node.kind, vs x.node.parent, vs x.part.id, vi x.part.rev, vi x.part.kind, vs x.part.node, vs x.part.grade, vi x.part.thick, tree 2 x.part.outer.length (encL x.part.outer), tree 1 x.part.holes.length (encL x.part.holes), vs x.part.sect, vi x.part.long, vi x.part.mass, vi x.part.centre.x, vi x.part.centre.y, vi x.part.centre.z, vi x.part.at_.x, vi x.part.at_.y, vi x.part.at_.z, vi x.part.turn, vs x.seam.id, vs x.seam.a, vs x.seam.b, vi x.seam.kind, vi x.seam.long, vi x.seam.cls, vs x.pack.id, vs x.pack.block, tree 1 x.pack.parts.length (encL x.pack.parts), vi x.pack.hours, tree 1 x.pack.after.length (encL x.pack.after), vi x.need.kind, vs x.need.block, vs x.need.on]) true))] 4))))) (T8 (T4 (T2 (True ∧ pIf (decide (Int.ofNat e = 0)) (T8 (T4 (True ∧ pIf (decide ((↑s.size : Int) > 0)) (T4 (T2 (True ∧ 2 ≤ 2 ∧ True ∧ ((T2 (True)) ∧ True ∧ True) ∧ Post (Value.tuple #[Value.agg #[vz, tree 38 0 #[]], vi 4])))) (T4 (T2 (pIf (!decide (Int.ofNat e = 0)) q2 q1)))))) (T4 (T2 (True ∧ pIf (!decide (Int.ofNat e = 0)) q2 q1)))))))) := by kernel_rfl
def ord0 : Order2 := ⟨⟨#[]⟩, []⟩
structure OrdR (t : ByteArray) (o : Order2) (w : Int) : Prop where
 ok : w = 0 → bOrder o = t
 inO : InOrder o
 few : FewO o
 big : w ≠ 0 → o = ord0
def y_D (args : List Value) (Post : Value → Prop) : Prop := match args with
 | [.string t] => t.size < 4611686018427387904 ∧ ∀ o w, OrdR t o w → Post (.tuple #[order2V o, .int .i64 w])
 | _ => False
def nextO : PCall := ofV (tabCall [⟨148, y_D⟩] (itabCall tabRd noCall))
def callO : PCall := inlP Tryz.prog [143, 79, 80] nextO 4
theorem e_rd1 (a w : Int) (s : ByteArray) (H : HT) (Post : PX) : vcX Tryz.prog callO 22 [(19, [0, 1, 132, 133]), (31, [0, 1, 203, 204]), (55, [0, 1, 330, 331])] [cells0 1 a, [ptr2, .int .i64 w], [.string s, .int .i64 0]] argsR H Post = (T16 (True ∧ true = true ∧ s.size < 4611686018427387904 ∧ 1048576 < 4611686018427387904 ∧ (∀ (v r : ByteArray), rsT 1048576 s = Rs.ok v r → 1 = 1 ∧ T16 (T4 (True ∧ v.size < 4611686018427387904 ∧ ∀ (o : Order2) (w : Int), OrdR v o w → T4 (9 ≤ 40 ∧ T2 (2 ≤ 2 ∧ True ∧ (((T32 (T8 (True))) ∧ (T2 (True)) ∧ (T2 (True)) ∧ True) ∧ True) ∧ true = true ∧ Post (Out.ret (Value.tuple #[])) [[vi 1, vi a, vz, vz, vz, vi 0, vb false, vs o.id, tree 38 o.edits.length (encL o.edits), vz, vz, vi 0, vi 0, vi 0, vz, vz, vz, vz, vi 0, vz, vz, vi 0, nS, vz, vi 0, nS, vz, vi 0, vi 0, vi 0, vi 0, vi 0, vi 0, nS, vz, nS, vz, vi 0, vi 0, vi 0], [pt 2, vi w], [vs r, vi 0]]))))) ∧ ∀ (e : Nat), rsT 1048576 s = Rs.err e → 1 = 1 ∧ T16 (T4 (((T32 (T8 (True))) ∧ (T2 (True)) ∧ (T2 (True)) ∧ True) ∧ true = true ∧ Post (Out.pan (Value.iface 50 (vi (Int.ofNat (e + 1))))) [[vi 1, vi a, vz, vz, vz, vi 0, vb false, vz, nS, vz, vz, vi 0, vi 0, vi 0, vz, vz, vz, vz, vi 0, vz, vz, vi 0, nS, vz, vi 0, nS, vz, vi 0, vi 0, vi 0, vi 0, vi 0, vi 0, nS, vz, nS, vz, vi 0, vi 0, vi 0], [pt 2, vi w], [vs s, vi (Int.ofNat (e + 1))]])))) := by kernel_rfl
def part0 : Part := ⟨⟨#[]⟩, 0, 0, ⟨#[]⟩, ⟨#[]⟩, 0, [], [], ⟨#[]⟩, 0, 0, ⟨0, 0, 0⟩, ⟨0, 0, 0⟩, 0⟩
theorem in64_0 : In64 0 := by unfold In64; omega
theorem in_part0 : InPart part0 := ⟨in64_0, in64_0, in64_0, (fun x h => by cases h), (fun x h => by cases h), in64_0, in64_0, ⟨in64_0, in64_0, in64_0⟩, ⟨in64_0, in64_0, in64_0⟩, in64_0, by decide, by decide, by decide, by decide⟩
theorem fit_part0 : FitP part0 := ⟨by decide, by decide, by decide, by decide, by decide, by decide, (fun x h => by cases h)⟩
def bFr0 (f : Part) : ByteArray := bText f.id ++ bInt f.rev ++ bInt f.kind ++ bText f.node ++ bText f.grade ++ bInt f.thick ++ bPts f.outer
def bHl (f : Part) (n : Nat) (l : List (List Pt)) : ByteArray := l.foldl (fun s h => s ++ bPts h) (bFr0 f ++ bList n)
theorem bHl_part (f : Part) (l : List (List Pt)) (sect : ByteArray) (long mass cx cy cz ax ay az turn : Int) : bHl f l.length l ++ (bText sect ++ (bInt long ++ (bInt mass ++ (bInt cx ++ (bInt cy ++ (bInt cz ++ (bInt ax ++ (bInt ay ++ (bInt az ++ bInt turn))))))))) = bPart { f with holes := l, sect := sect, long := long, mass := mass, centre := ⟨cx, cy, cz⟩, at_ := ⟨ax, ay, az⟩, turn := turn } := by
 unfold bPart bHoles bHl bFr0 bFront bRear bInts
 simp only [List.take_length, List.foldl_cons, List.foldl_nil, ba_assoc, ba_nil]
abbrev OkYP (Post : Value → List (List Value) → Prop) (st : AS) : Prop := OkI Tryz.prog 153 [ptr0] 1 Post (lpC Tryz.prog 153 10) (lpK Tryz.prog 153 10) st
def zeroY : List Value := [.string ⟨#[]⟩, .int .i64 0, .int .i64 0, .string ⟨#[]⟩, .string ⟨#[]⟩, .int .i64 0, .slice none 0 0, .slice none 0 0, .string ⟨#[]⟩, .int .i64 0, .int .i64 0, .int .i64 0, .int .i64 0, .int .i64 0, .int .i64 0, .int .i64 0, .int .i64 0, .int .i64 0]
def frontY (f : Part) (u : Value) : List Value := [.string f.id, .int .i64 f.rev, .int .i64 f.kind, .string f.node, .string f.grade, .int .i64 f.thick, trPt f.outer, u, .string ⟨#[]⟩, .int .i64 0, .int .i64 0, .int .i64 0, .int .i64 0, .int .i64 0, .int .i64 0, .int .i64 0, .int .i64 0, .int .i64 0]
theorem yP_fin (Post : Value → List (List Value) → Prop) (s0 : ByteArray) (e0 : Nat) (f : Part) (hf : InPart f) (hff : FitP f) (l : List (List Pt)) (hl : l.length ≤ 8) (hin : ∀ x ∈ l, x.length ≤ 32 ∧ ∀ y ∈ x, InPt y) (s : ByteArray) (e : Nat) (hr : GotB s0 e0 (bHl f l.length l) s e)
  (h : ∀ p r e, GotB s0 e0 (bPart p) r e → InPart p → FitP p → Post (partV p) [[.string r, .int .i64 (.ofNat e)]])
  {sect : ByteArray} {long mass cx cy cz ax ay az turn : Int} {s1 s2 s3 s4 s5 s6 s7 s8 s9 t : ByteArray} {e1 e2 e3 e4 e5 e6 e7 e8 e9 e' : Nat}
  (r1 : GotB s e (bText sect) s1 e1) (i1 : sect.size ≤ 16) (r2 : GotB s1 e1 (bInt long) s2 e2) (i2 : In64 long) (r3 : GotB s2 e2 (bInt mass) s3 e3) (i3 : In64 mass) (r4 : GotB s3 e3 (bInt cx) s4 e4) (i4 : In64 cx) (r5 : GotB s4 e4 (bInt cy) s5 e5) (i5 : In64 cy) (r6 : GotB s5 e5 (bInt cz) s6 e6) (i6 : In64 cz) (r7 : GotB s6 e6 (bInt ax) s7 e7) (i7 : In64 ax) (r8 : GotB s7 e7 (bInt ay) s8 e8) (i8 : In64 ay) (r9 : GotB s8 e8 (bInt az) s9 e9) (i9 : In64 az) (r10 : GotB s9 e9 (bInt turn) t e') (i10 : In64 turn) :
  (¬ (Int.ofNat e' = 0) → Post (partV part0) [[.string t, .int .i64 (.ofNat e')]]) ∧ (Int.ofNat e' = 0 → Post (partV { f with holes := l, sect := sect, long := long, mass := mass, centre := ⟨cx, cy, cz⟩, at_ := ⟨ax, ay, az⟩, turn := turn }) [[.string t, .int .i64 (.ofNat e')]]) := by
 have R := hr.trans (r1.trans (r2.trans (r3.trans (r4.trans (r5.trans (r6.trans (r7.trans (r8.trans (r9.trans r10)))))))))
 refine ⟨fun hn => h part0 t e' (R.bad fun h0 => hn (by rw [h0]; rfl)) in_part0 fit_part0, fun _ => h _ t e' (R.cast (bHl_part f l sect long mass cx cy cz ax ay az turn)) ?_ ?_⟩
 ·exact ⟨hf.rev, hf.kind, hf.thick, hf.outer, fun x hx => (hin x hx).2, i2, i3, ⟨i4, i5, i6⟩, ⟨i7, i8, i9⟩, i10, hf.id, hf.node, hf.grade, Nat.le_trans i1 (by decide)⟩
 ·exact ⟨hff.id, hff.node, hff.grade, i1, hff.outer, hl, fun x hx => (hin x hx).1⟩
theorem yP_loop (Post : Value → List (List Value) → Prop) (s0 : ByteArray) (e0 : Nat) (f : Part) (hf : InPart f) (hff : FitP f) (n : Nat) (hn : n ≤ 8)
  (h : ∀ p r e, GotB s0 e0 (bPart p) r e → InPart p → FitP p → Post (partV p) [[.string r, .int .i64 (.ofNat e)]]) : ∀ (j i : Nat) (s : ByteArray) (e : Nat) (l : List (List Pt)), i + j = n → l.length = i → s.size < 4611686018427387904 → GotB s0 e0 (bHl f n l) s e → (∀ x ∈ l, x.length ≤ 32 ∧ ∀ y ∈ x, InPt y) →
  OkYP Post (stV [(0, some ptr0), (2, some (.pointer (some ⟨1, 0, none⟩))), (3, some (.pointer (some ⟨2, 0, none⟩))), (27, some (.int .i64 n)), (28, some (.int .i64 i))] ([(0, some (.cells [.string s, .int .i64 (.ofNat e)] true)), (1, some (.cells zeroY true)), (2, some (.cells (frontY f (accV 3 l)) true))] ++ accH 3 l) (accN 3 l)) := by
 intro j
 induction j with
 | zero =>
  intro i s e l hi hl hs hr hin
  have hr' : GotB s0 e0 (bHl f l.length l) s e := by rw [show l.length = n by omega]; exact hr
  unfold accV accH accN
  by_cases h0 : l.length = 0
  ·rw [if_pos h0, if_pos h0, if_pos h0]
   refine ok_I (vc := callYp) callYp_ok mixed _ (l_yPart0 s e n i f.id f.node f.grade f.rev f.kind f.thick f.outer.length (encL f.outer) _ _) ?_
   simp only [true_and, and_true]
   have hl0 := List.eq_nil_of_length_eq_zero h0
   subst hl0
   refine pIfD (fun hh => absurd hh (by omega)) (fun _ => ?_)
   and_intros <;> try first | omega | decide | rfl
   intro v1 s1 e1 r1 i1
   have q1 := r1.le
   and_intros <;> try first | omega | decide | rfl
   intro v2 s2 e2 r2 i2
   have q2 := r2.le
   and_intros <;> try first | omega | decide | rfl
   intro v3 s3 e3 r3 i3
   have q3 := r3.le
   and_intros <;> try first | omega | decide | rfl
   intro v4 s4 e4 r4 i4
   have q4 := r4.le
   and_intros <;> try first | omega | decide | rfl
   intro v5 s5 e5 r5 i5
   have q5 := r5.le
   and_intros <;> try first | omega | decide | rfl
   intro v6 s6 e6 r6 i6
   have q6 := r6.le
   and_intros <;> try first | omega | decide | rfl
   intro v7 s7 e7 r7 i7
   have q7 := r7.le
   and_intros <;> try first | omega | decide | rfl
   intro v8 s8 e8 r8 i8
   have q8 := r8.le
   and_intros <;> try first | omega | decide | rfl
   intro v9 s9 e9 r9 i9
   have q9 := r9.le
   and_intros <;> try first | omega | decide | rfl
   intro v10 s10 e10 r10 i10
   have q10 := r10.le
   have F := yP_fin Post s0 e0 f hf hff _ (by omega) hin s e hr' h r1 i1 r2 i2 r3 i3 r4 i4 r5 i5 r6 i6 r7 i7 r8 i8 r9 i9 r10 i10
   and_intros <;> try first | omega | decide | rfl
   refine pIfN (fun hh => ?_) (fun hh => ?_)
   ·and_intros <;> first | omega | decide | rfl | exact trivial | exact F.1 hh
   ·and_intros <;> first | omega | decide | rfl | exact trivial | exact F.2 hh
  ·rw [if_neg h0, if_neg h0, if_neg h0]
   refine ok_I (vc := callYp) callYp_ok mixed _ (l_yPart1 s e n i f.id f.node f.grade f.rev f.kind f.thick f.outer.length (encL f.outer) l.length (rowC l) _ _) ?_
   simp only [true_and, and_true]
   rw [show chunks 1 l.length (List.drop 0 (rowC l)) = encL l from chunks_row l]
   refine pIfD (fun hh => absurd hh (by omega)) (fun _ => ?_)
   and_intros <;> try first | omega | decide | rfl
   intro v1 s1 e1 r1 i1
   have q1 := r1.le
   and_intros <;> try first | omega | decide | rfl
   intro v2 s2 e2 r2 i2
   have q2 := r2.le
   and_intros <;> try first | omega | decide | rfl
   intro v3 s3 e3 r3 i3
   have q3 := r3.le
   and_intros <;> try first | omega | decide | rfl
   intro v4 s4 e4 r4 i4
   have q4 := r4.le
   and_intros <;> try first | omega | decide | rfl
   intro v5 s5 e5 r5 i5
   have q5 := r5.le
   and_intros <;> try first | omega | decide | rfl
   intro v6 s6 e6 r6 i6
   have q6 := r6.le
   and_intros <;> try first | omega | decide | rfl
   intro v7 s7 e7 r7 i7
   have q7 := r7.le
   and_intros <;> try first | omega | decide | rfl
   intro v8 s8 e8 r8 i8
   have q8 := r8.le
   and_intros <;> try first | omega | decide | rfl
   intro v9 s9 e9 r9 i9
   have q9 := r9.le
   and_intros <;> try first | omega | decide | rfl
   intro v10 s10 e10 r10 i10
   have q10 := r10.le
   have F := yP_fin Post s0 e0 f hf hff _ (by omega) hin s e hr' h r1 i1 r2 i2 r3 i3 r4 i4 r5 i5 r6 i6 r7 i7 r8 i8 r9 i9 r10 i10
   and_intros <;> try first | omega | decide | rfl
   refine pIfN (fun hh => ?_) (fun hh => ?_)
   ·and_intros <;> first | omega | decide | rfl | exact trivial | exact F.1 hh
   ·and_intros <;> first | omega | decide | rfl | exact trivial | exact F.2 hh | exact rowC_nls l | (rw [rowC_len, Nat.zero_add]; exact Nat.le_refl _)
 | succ j ih =>
  intro i s e l hi hl hs hr hin
  have nx := fun x s1 e1 (r1 : GotB s e (bPts x) s1 e1) (i1 : x.length ≤ 32) (j1 : ∀ y ∈ x, InPt y) => ih (i + 1) s1 e1 (l ++ [x]) (by omega) (by simp [hl]) (Nat.lt_of_le_of_lt r1.le hs) (by unfold bHl; rw [List.foldl_append]; exact hr.trans r1) (mem_snoc hin ⟨i1, j1⟩)
  unfold accV accH accN at nx ⊢
  simp only [List.length_append, List.length_cons, List.length_nil, Nat.zero_add, Nat.add_eq_zero_iff, Nat.one_ne_zero, and_false, if_false, rowC_snoc] at nx
  by_cases h0 : l.length = 0
  ·rw [if_pos h0, if_pos h0, if_pos h0]
   refine ok_I (vc := callYp) callYp_ok mixed _ (l_yPart0 s e n i f.id f.node f.grade f.rev f.kind f.thick f.outer.length (encL f.outer) _ _) ?_
   simp only [true_and, and_true]
   have hl0 := List.eq_nil_of_length_eq_zero h0
   subst hl0
   rw [wrapSucc (by omega)]
   refine pIfD (fun _ => ?_) (fun hh => absurd hh (by omega))
   and_intros <;> try first | omega | decide | rfl
   intro x s1 e1 r1 i1 j1
   and_intros <;> first | omega | decide | rfl | exact trivial | exact yNls2 _ _ rfl rfl | exact ySnoc (l := []) (fun _ h => by cases h) rfl | exact nx x s1 e1 r1 i1 j1
  ·rw [if_neg h0, if_neg h0, if_neg h0]
   refine ok_I (vc := callYp) callYp_ok mixed _ (l_yPart1 s e n i f.id f.node f.grade f.rev f.kind f.thick f.outer.length (encL f.outer) l.length (rowC l) _ _) ?_
   simp only [true_and, and_true]
   rw [wrapSucc (by omega)]
   refine pIfD (fun _ => ?_) (fun hh => absurd hh (by omega))
   and_intros <;> try first | omega | decide | rfl
   intro x s1 e1 r1 i1 j1
   and_intros <;> first | omega | decide | rfl | exact trivial | exact yNls2 _ _ rfl rfl | exact ySnoc (l := rowC l) (rowC_nls l) rfl | (rw [rowC_len, Nat.zero_add]; rfl) | exact nx x s1 e1 r1 i1 j1
theorem ok_yP : IEntOk Tryz.prog ⟨153, y_P⟩ := by
 intro args conts Post h
 unfold y_P at h
 dsimp only at h
 split at h
 case h_2 => exact h.elim
 rename_i s e
 obtain ⟨hs, h⟩ := h
 refine spec_I (vc := callYp) callYp_ok mixed (by kernel_rfl) (by kernel_rfl) _ (e_yPart s e _ _) ?_
 simp only [true_and, and_true]
 and_intros <;> try first | omega | decide | rfl
 intro v1 s1 e1 r1 i1
 have q1 := r1.le
 and_intros <;> try first | omega | decide | rfl
 intro v2 s2 e2 r2 i2
 have q2 := r2.le
 and_intros <;> try first | omega | decide | rfl
 intro v3 s3 e3 r3 i3
 have q3 := r3.le
 and_intros <;> try first | omega | decide | rfl
 intro v4 s4 e4 r4 i4
 have q4 := r4.le
 and_intros <;> try first | omega | decide | rfl
 intro v5 s5 e5 r5 i5
 have q5 := r5.le
 and_intros <;> try first | omega | decide | rfl
 intro v6 s6 e6 r6 i6
 have q6 := r6.le
 and_intros <;> try first | omega | decide | rfl
 intro v7 s7 e7 r7 i7 j7
 have q7 := r7.le
 and_intros <;> try first | omega | decide | rfl
 intro v8 s8 e8 r8 i8
 have q8 := r8.le
 have hf : InPart { part0 with id := v1, rev := v2, kind := v3, node := v4, grade := v5, thick := v6, outer := v7 } := ⟨i2, i3, i6, j7, (fun x h => by cases h), in64_0, in64_0, ⟨in64_0, in64_0, in64_0⟩, ⟨in64_0, in64_0, in64_0⟩, in64_0, Nat.le_trans i1 (by decide), Nat.le_trans i4 (by decide), Nat.le_trans i5 (by decide), in_part0.sect⟩
 have hff : FitP { part0 with id := v1, rev := v2, kind := v3, node := v4, grade := v5, thick := v6, outer := v7 } := ⟨i1, i4, i5, fit_part0.sect, i7, fit_part0.holes, (fun x h => by cases h)⟩
 have R := r1.trans (r2.trans (r3.trans (r4.trans (r5.trans (r6.trans (r7.trans r8))))))
 have lp := yP_loop Post s e _ hf hff v8 i8 h v8 0 s8 e8 [] (Nat.zero_add _) rfl (by omega) (R.cast (by unfold bHl bFr0; simp only [List.foldl_nil, ba_assoc])) (fun x hx => by cases hx)
 and_intros <;> first | omega | decide | rfl | exact yNls2 _ _ rfl rfl | exact lp
abbrev OkYS (m : Nat) (Post : Value → List (List Value) → Prop) (st : AS) : Prop := OkI Tryz.prog 154 [ptr0, .int .i64 (.ofNat m)] 1 Post (lpC Tryz.prog 154 2) (lpK Tryz.prog 154 2) st
abbrev bStrsN (n : Nat) (l : List ByteArray) : ByteArray := l.foldl (fun s x => s ++ bText x) (bList n)
theorem yNl1 (v : Value) (hv : nl1 v = true) : NLs [v] := by
 intro u hu
 simp at hu
 exact hu ▸ hv
theorem yTxs_loop (m : Nat) (hm : m < 1048576) (Post : Value → List (List Value) → Prop) (s0 : ByteArray) (e0 n : Nat) (hn : n ≤ m) (h : ∀ l r e, GotB s0 e0 (bStrs l) r e → l.length ≤ m → (∀ x ∈ l, x.size ≤ 64) → Post (trStr l) [[.string r, .int .i64 (.ofNat e)]]) : ∀ (j i : Nat) (s : ByteArray) (e : Nat) (l : List ByteArray), i + j = n → l.length = i → s.size < 4611686018427387904 → GotB s0 e0 (bStrsN n l) s e → (∀ x ∈ l, x.size ≤ 64) →
  OkYS m Post (stV [(0, some ptr0), (4, some (accV 1 l)), (7, some (.int .i64 n)), (8, some (.int .i64 i))] ((0, some (.cells [.string s, .int .i64 (.ofNat e)] true)) :: accH 1 l) (accN 1 l)) := by
 intro j
 induction j with
 | zero =>
  intro i s e l hi hl hs hr hin
  have h := h l s e (by unfold bStrs; rw [show l.length = n by omega]; exact hr) (by omega) hin
  unfold accV accH accN
  by_cases h0 : l.length = 0
  ·rw [if_pos h0, if_pos h0, if_pos h0]
   refine ok_I (vc := callY) callY_ok mixed _ (l_yTxs0 s e m n i _ _) ?_
   simp only [true_and, and_true, pIf_iff, decide_eq_true_eq, decide_eq_false_iff_not]
   rw [List.eq_nil_of_length_eq_zero h0] at h
   exact ⟨fun h' => by omega, fun _ => h⟩
  ·rw [if_neg h0, if_neg h0, if_neg h0]
   refine ok_I (vc := callY) callY_ok mixed _ (l_yTxs1 s e m l.length n i (rowC l) _ _) ?_
   simp only [true_and, and_true, pIf_iff, decide_eq_true_eq, decide_eq_false_iff_not]
   refine ⟨fun h' => by omega, fun _ => ⟨⟨by rw [rowC_len, Nat.zero_add]; exact Nat.le_refl _, rowC_nls l⟩, ?_⟩⟩
   have := chunks_row l
   rw [List.drop_zero, show chunks 1 l.length (rowC l) = encL l from this]
   exact h
 | succ j ih =>
  intro i s e l hi hl hs hr hin
  have nx := fun a s1 e1 (r1 : GotB s e (bText a) s1 e1) (i1 : a.size ≤ 64) => ih (i + 1) s1 e1 (l ++ [a]) (by omega) (by simp [hl]) (Nat.lt_of_le_of_lt r1.le hs) (by unfold bStrsN; rw [List.foldl_append]; exact hr.trans r1) (mem_snoc hin i1)
  unfold accV accH accN at nx ⊢
  simp only [List.length_append, List.length_cons, List.length_nil, Nat.zero_add, Nat.add_eq_zero_iff, Nat.one_ne_zero, and_false, if_false, rowC_snoc] at nx
  by_cases h0 : l.length = 0
  ·rw [if_pos h0, if_pos h0, if_pos h0]
   refine ok_I (vc := callY) callY_ok mixed _ (l_yTxs0 s e m n i _ _) ?_
   simp only [true_and, and_true, pIf_iff, decide_eq_true_eq, decide_eq_false_iff_not]
   have hl0 := List.eq_nil_of_length_eq_zero h0
   subst hl0
   rw [wrapSucc (by omega)]
   refine ⟨fun _ => ⟨hs, by decide, fun a s1 e1 r1 i1 => by and_intros <;> first | omega | decide | rfl | exact yNls2 _ _ rfl rfl | exact yNl1 _ rfl | exact nx a s1 e1 r1 i1⟩, fun h' => by omega⟩
  ·rw [if_neg h0, if_neg h0, if_neg h0]
   refine ok_I (vc := callY) callY_ok mixed _ (l_yTxs1 s e m l.length n i (rowC l) _ _) ?_
   simp only [true_and, and_true, pIf_iff, decide_eq_true_eq, decide_eq_false_iff_not]
   rw [wrapSucc (by omega)]
   refine ⟨fun _ => ⟨hs, by decide, fun a s1 e1 r1 i1 => by and_intros <;> first | omega | decide | rfl | exact yNls2 _ _ rfl rfl | exact yNl1 _ rfl | exact ySnoc2 (rowC_nls l) (yNl1 _ rfl) | (rw [rowC_len, Nat.zero_add]; rfl) | exact nx a s1 e1 r1 i1⟩, fun h' => by omega⟩
theorem ok_yS : IEntOk Tryz.prog ⟨154, y_S⟩ := by
 intro args conts Post h
 unfold y_S at h
 dsimp only at h
 split at h
 case h_2 => exact h.elim
 rename_i m s e
 obtain ⟨hs, hm, h⟩ := h
 refine spec_I (vc := callY) callY_ok mixed (by kernel_rfl) (by kernel_rfl) _ (e_yTxs s e m _ _) ?_
 simp only [true_and, and_true]
 refine ⟨hs, Nat.lt_trans hm (by decide), fun n r e1 r1 h1 => ⟨yNls2 _ _ rfl rfl, ?_⟩⟩
 exact yTxs_loop m hm Post s e n h1 h n 0 r e1 [] (Nat.zero_add _) rfl (Nat.lt_of_le_of_lt r1.le hs) r1 (fun x hx => by cases hx)
theorem yVol {m : Nat} : ∀ {l : List ByteArray}, (∀ x ∈ l, x.size ≤ m) → volL l ≤ l.length * m
 | [], _ => by simp [volL]
 | a :: l, h => by
  have e : volL (a :: l) = a.size + volL l := by simp [volL]
  have h1 := h a (by simp)
  have h2 := yVol (l := l) fun x hx => h x (by simp [hx])
  rw [e, List.length_cons, Nat.succ_mul]
  omega
def edit0 : Edit := ⟨0, ⟨#[]⟩, ⟨#[]⟩, ⟨⟨#[]⟩, 0, ⟨#[]⟩⟩, part0, ⟨⟨#[]⟩, ⟨#[]⟩, ⟨#[]⟩, 0, 0, 0⟩, ⟨⟨#[]⟩, ⟨#[]⟩, [], 0, []⟩, ⟨0, ⟨#[]⟩, ⟨#[]⟩⟩⟩
theorem in_edit0 : InEdit edit0 := ⟨in64_0, in64_0, in_part0, in64_0, in64_0, in64_0, in64_0, in64_0⟩
theorem fit_edit0 : FitE edit0 := ⟨fit_part0, by decide, by decide, by decide⟩
theorem callYe_ok : VCallOk Tryz.prog callYe := inlCall_ok mixed (itabCall_ok (by
 intro e he
 rcases List.mem_cons.1 he with rfl | he
 ·exact ok_yS
 rcases List.mem_cons.1 he with rfl | he
 ·exact ok_yP
 ·exact tabY_ok e he) noCall_ok) 3
theorem fitE_mk {a : Int} {i t ni np : ByteArray} {nk : Int} {p : Part} {si sa sb : ByteArray} {sk sl sc : Int} {pi pb : ByteArray} {ps : List ByteArray} {h : Int} {pa : List ByteArray} {k : Int} {b o : ByteArray}
  (h1 : i.size ≤ 64) (h2 : t.size ≤ 64) (h3 : ni.size ≤ 64) (h4 : np.size ≤ 64) (h5 : FitP p) (h6 : si.size ≤ 64) (h7 : sa.size ≤ 64) (h8 : sb.size ≤ 64) (h9 : pi.size ≤ 64) (h10 : pb.size ≤ 64) (h11 : ps.length ≤ 256) (h12 : ∀ x ∈ ps, x.size ≤ 64) (h13 : pa.length ≤ 64) (h14 : ∀ x ∈ pa, x.size ≤ 64) (h15 : b.size ≤ 64) (h16 : o.size ≤ 64) :
  FitE ⟨a, i, t, ⟨ni, nk, np⟩, p, ⟨si, sa, sb, sk, sl, sc⟩, ⟨pi, pb, ps, h, pa⟩, ⟨k, b, o⟩⟩ := by
 refine ⟨h5, h11, h13, ?_⟩
 have g1 := yVol h12
 have g2 := yVol h14
 obtain ⟨g3, g4, g5, g6, _, _, _⟩ := h5
 unfold volE volP
 dsimp only
 omega
theorem ok_yE : IEntOk Tryz.prog ⟨150, y_E⟩ := by
 intro args conts Post h
 unfold y_E at h
 dsimp only at h
 split at h
 case h_2 => exact h.elim
 rename_i s e
 obtain ⟨hs, h⟩ := h
 refine spec_I (vc := callYe) callYe_ok mixed (by kernel_rfl) (by kernel_rfl) _ (e_yEdit s e _ _) ?_
 simp only [true_and, and_true]
 and_intros <;> try first | omega | decide | rfl
 intro v1 s1 e1 r1 i1
 have q1 := r1.le
 and_intros <;> try first | omega | decide | rfl
 intro v2 s2 e2 r2 i2
 have q2 := r2.le
 and_intros <;> try first | omega | decide | rfl
 intro v3 s3 e3 r3 i3
 have q3 := r3.le
 and_intros <;> try first | omega | decide | rfl
 intro v4 s4 e4 r4 i4
 have q4 := r4.le
 and_intros <;> try first | omega | decide | rfl
 intro v5 s5 e5 r5 i5
 have q5 := r5.le
 and_intros <;> try first | omega | decide | rfl
 intro v6 s6 e6 r6 i6
 have q6 := r6.le
 and_intros <;> try first | omega | decide | rfl
 intro v7 s7 e7 r7 i7 j7
 have q7 := r7.le
 and_intros <;> try first | omega | decide | rfl
 intro v8 s8 e8 r8 i8
 have q8 := r8.le
 and_intros <;> try first | omega | decide | rfl
 intro v9 s9 e9 r9 i9
 have q9 := r9.le
 and_intros <;> try first | omega | decide | rfl
 intro v10 s10 e10 r10 i10
 have q10 := r10.le
 and_intros <;> try first | omega | decide | rfl
 intro v11 s11 e11 r11 i11
 have q11 := r11.le
 and_intros <;> try first | omega | decide | rfl
 intro v12 s12 e12 r12 i12
 have q12 := r12.le
 and_intros <;> try first | omega | decide | rfl
 intro v13 s13 e13 r13 i13
 have q13 := r13.le
 and_intros <;> try first | omega | decide | rfl
 intro v14 s14 e14 r14 i14
 have q14 := r14.le
 and_intros <;> try first | omega | decide | rfl
 intro v15 s15 e15 r15 i15
 have q15 := r15.le
 and_intros <;> try first | omega | decide | rfl
 intro v16 s16 e16 r16 i16 j16
 have q16 := r16.le
 and_intros <;> try first | omega | decide | rfl
 intro v17 s17 e17 r17 i17
 have q17 := r17.le
 and_intros <;> try first | omega | decide | rfl
 intro v18 s18 e18 r18 i18 j18
 have q18 := r18.le
 and_intros <;> try first | omega | decide | rfl
 intro v19 s19 e19 r19 i19
 have q19 := r19.le
 and_intros <;> try first | omega | decide | rfl
 intro v20 s20 e20 r20 i20
 have q20 := r20.le
 and_intros <;> try first | omega | decide | rfl
 intro v21 s21 e21 r21 i21
 have q21 := r21.le
 have R := r1.trans (r2.trans (r3.trans (r4.trans (r5.trans (r6.trans (r7.trans (r8.trans (r9.trans (r10.trans (r11.trans (r12.trans (r13.trans (r14.trans (r15.trans (r16.trans (r17.trans (r18.trans (r19.trans (r20.trans r21)))))))))))))))))))
 have F0 : ¬ (Int.ofNat e21 = 0) → Post (editV edit0) [[.string s21, .int .i64 (.ofNat e21)]] := fun hn => h edit0 s21 e21 (R.bad fun h0 => hn (by rw [h0]; rfl)) in_edit0 fit_edit0
 have F1 := h ⟨v1, v2, v3, ⟨v4, v5, v6⟩, v7, ⟨v8, v9, v10, v11, v12, v13⟩, ⟨v14, v15, v16, v17, v18⟩, ⟨v19, v20, v21⟩⟩ s21 e21 (R.cast (by unfold bEdit bNode bSeam bPack; simp only [ba_assoc])) ⟨i1, i5, i7, i11, i12, i13, i17, i19⟩ (fitE_mk i2 i3 i4 i6 j7 i8 i9 i10 i14 i15 i16 j16 i18 j18 i20 i21)
 and_intros <;> try first | omega | decide | rfl
 refine pIfN (fun hh => ?_) (fun hh => ?_)
 ·and_intros <;> first | omega | decide | rfl | exact trivial | exact F0 hh
 ·and_intros <;> first | omega | decide | rfl | exact trivial | exact F1
theorem callYd_ok : VCallOk Tryz.prog callYd := inlCall_ok mixed (itabCall_ok (by
 intro e he
 rcases List.mem_cons.1 he with rfl | he
 ·exact ok_yE
 ·exact tabY_ok e he) noCall_ok) 3
theorem vol2_fit : ∀ {l : List Edit}, (∀ x ∈ l, InEdit x ∧ FitE x) → vol2 l ≤ l.length * 30000
 | [], _ => by simp [vol2]
 | a :: l, h => by
  have e : vol2 (a :: l) = volE a + vol2 l := by simp [vol2]
  have h1 := (h a (by simp)).2.vol
  have h2 := vol2_fit (l := l) fun x hx => h x (by simp [hx])
  rw [e, List.length_cons, Nat.succ_mul]
  omega
theorem fewO_mk {id : ByteArray} {l : List Edit} (hi : id.size ≤ 64) (hl : l.length ≤ 32) (h : ∀ x ∈ l, InEdit x ∧ FitE x) : FewO ⟨id, l⟩ := by
 refine ⟨?_, ?_, fun x hx => ?_⟩
 ·have := vol2_fit h
  show id.size + vol2 l ≤ _
  omega
 ·show l.length ≤ _
  omega
 ·obtain ⟨⟨_, _, _, _, g1, g2, g3⟩, g4, g5, _⟩ := (h x hx).2
  exact ⟨by omega, by omega, by omega, by omega, fun y hy => Nat.le_trans (g3 y hy) (by decide)⟩
theorem ordR_no {t : ByteArray} {w : Int} (hw : w ≠ 0) : OrdR t ord0 w := ⟨fun h => absurd h hw, ⟨fun x hx => by cases hx⟩, fewO_mk (by decide) (by decide) (fun x hx => by cases hx), fun _ => rfl⟩
def bOrdN (id : ByteArray) (n : Nat) (l : List Edit) : ByteArray := l.foldl (fun s x => s ++ bEdit x) (bText id ++ bList n)
theorem ba_zero {s : ByteArray} (h : s.size = 0) : s = ⟨#[]⟩ := ba_ext (List.eq_nil_of_length_eq_zero (by rw [← size_list]; exact h))
theorem yD_fin {t id s : ByteArray} {e : Nat} {l : List Edit} {Post : Value → Prop} (h : ∀ o w, OrdR t o w → Post (.tuple #[order2V o, .int .i64 w])) (hi : id.size ≤ 64) (hl : l.length ≤ 32) (hin : ∀ x ∈ l, InEdit x ∧ FitE x) (hr : GotB t 0 (bOrdN id l.length l) s e) :
  (∀ w : Int, w ≠ 0 → Post (.tuple #[order2V ord0, .int .i64 w])) ∧ (Int.ofNat e = 0 → ¬ ((s.size : Int) > 0) → Post (.tuple #[order2V ⟨id, l⟩, .int .i64 0])) := by
 refine ⟨fun w hw => h _ _ (ordR_no hw), fun h0 hs => h _ _ ⟨fun _ => ?_, ⟨fun x hx => (hin x hx).1⟩, fewO_mk hi hl hin, fun hw => absurd rfl hw⟩⟩
 have h0 : e = 0 := Int.ofNat.inj h0
 obtain ⟨_, q⟩ := hr.ok h0
 rw [ba_zero (s := s) (by omega), ba_nilr] at q
 rw [q]
 unfold bOrder bEdits bOrdN
 dsimp only
 rw [List.take_length]
abbrev OkYD (t : ByteArray) (Post : Value → Prop) (st : AS) : Prop := OkP 148 [.string t] 4 Post st
theorem yD_loop (t id : ByteArray) (n : Nat) (hn : n ≤ 32) (hi : id.size ≤ 64) (Post : Value → Prop) (h : ∀ o w, OrdR t o w → Post (.tuple #[order2V o, .int .i64 w])) : ∀ (j i : Nat) (s : ByteArray) (e : Nat) (l : List Edit), i + j = n → l.length = i → s.size < 4611686018427387904 → GotB t 0 (bOrdN id n l) s e → (∀ x ∈ l, InEdit x ∧ FitE x) →
  OkYD t Post (stV [(2, some (.pointer (some ⟨0, 0, none⟩))), (4, some (.pointer (some ⟨1, 0, none⟩))), (5, some (.pointer (some ⟨2, 0, none⟩))), (13, some (.int .i64 n)), (14, some (.int .i64 i))] ([(0, some (.cells [.string ⟨#[]⟩, .slice none 0 0] true)), (1, some (.cells [.string s, .int .i64 (.ofNat e)] true)), (2, some (.cells [.string id, accV 3 l] true))] ++ accH 3 l) (accN 3 l)) := by
 intro j
 induction j with
 | zero =>
  intro i s e l hij hl hs hr hin
  obtain ⟨F1, F2⟩ := yD_fin (l := l) (e := e) h hi (by omega) hin (by rw [show l.length = n by omega]; exact hr)
  unfold accV accH accN
  by_cases h0 : l.length = 0
  ·rw [if_pos h0, if_pos h0, if_pos h0]
   refine ok_P (vc := callYd) callYd_ok mixed _ (l_yDec0 t s id e n i _ _) ?_
   simp only [true_and, and_true]
   have hl0 := List.eq_nil_of_length_eq_zero h0
   subst hl0
   refine pIfD (fun hh => absurd hh (by omega)) (fun _ => ?_)
   refine pIfD (fun he => pIfD (fun hz => ?_) (fun hz => pIfN (fun hh => absurd he hh) (fun _ => ?_))) (fun he => pIfN (fun _ => ?_) (fun hh => absurd hh he))
   ·and_intros <;> first | omega | decide | rfl | exact trivial | exact F1 4 (by decide)
   ·and_intros <;> first | omega | decide | rfl | exact trivial | exact F2 he hz
   ·and_intros <;> first | omega | decide | rfl | exact trivial | exact F1 _ he
  ·rw [if_neg h0, if_neg h0, if_neg h0]
   refine ok_P (vc := callYd) callYd_ok mixed _ (l_yDec1 t s id e l.length n i (rowC l) _ _) ?_
   simp only [true_and, and_true]
   rw [show chunks 38 l.length (List.drop 0 (rowC l)) = encL l from chunks_row l]
   refine pIfD (fun hh => absurd hh (by omega)) (fun _ => ?_)
   refine pIfD (fun he => pIfD (fun hz => ?_) (fun hz => pIfN (fun hh => absurd he hh) (fun _ => ?_))) (fun he => pIfN (fun _ => ?_) (fun hh => absurd hh he))
   ·and_intros <;> first | omega | decide | rfl | exact trivial | exact F1 4 (by decide)
   ·and_intros <;> first | omega | decide | rfl | exact trivial | exact rowC_nls l | (rw [rowC_len, Nat.zero_add]; exact Nat.le_refl _) | exact F2 he hz
   ·and_intros <;> first | omega | decide | rfl | exact trivial | exact F1 _ he
 | succ j ih =>
  intro i s e l hij hl hs hr hin
  have nx := fun x s1 e1 (r1 : GotB s e (bEdit x) s1 e1) (i1 : InEdit x) (j1 : FitE x) => ih (i + 1) s1 e1 (l ++ [x]) (by omega) (by simp [hl]) (Nat.lt_of_le_of_lt r1.le hs) (by unfold bOrdN; rw [List.foldl_append]; exact hr.trans r1) (mem_snoc hin ⟨i1, j1⟩)
  unfold accV accH accN at nx ⊢
  simp only [List.length_append, List.length_cons, List.length_nil, Nat.zero_add, Nat.add_eq_zero_iff, Nat.one_ne_zero, and_false, if_false, rowC_snoc] at nx
  by_cases h0 : l.length = 0
  ·rw [if_pos h0, if_pos h0, if_pos h0]
   refine ok_P (vc := callYd) callYd_ok mixed _ (l_yDec0 t s id e n i _ _) ?_
   simp only [true_and, and_true]
   have hl0 := List.eq_nil_of_length_eq_zero h0
   subst hl0
   rw [wrapSucc (by omega)]
   refine pIfD (fun _ => ?_) (fun hh => absurd hh (by omega))
   and_intros <;> try first | omega | decide | rfl
   intro x s1 e1 r1 i1 j1
   have z := nx x s1 e1 r1 i1 j1
   and_intros <;> first | omega | decide | rfl | exact trivial | exact Enc.nl x | exact z
  ·rw [if_neg h0, if_neg h0, if_neg h0]
   refine ok_P (vc := callYd) callYd_ok mixed _ (l_yDec1 t s id e l.length n i (rowC l) _ _) ?_
   simp only [true_and, and_true]
   rw [wrapSucc (by omega)]
   refine pIfD (fun _ => ?_) (fun hh => absurd hh (by omega))
   and_intros <;> try first | omega | decide | rfl
   intro x s1 e1 r1 i1 j1
   have z := nx x s1 e1 r1 i1 j1
   and_intros <;> first | omega | decide | rfl | exact trivial | exact ySnoc2 (rowC_nls l) (Enc.nl x) | (rw [rowC_len, Nat.zero_add]; rfl) | exact z
theorem ok_yD : EntOk Tryz.prog ⟨148, y_D⟩ := by
 intro args Post h
 unfold y_D at h
 dsimp only at h
 split at h
 case h_2 => exact h.elim
 rename_i t
 obtain ⟨hs, h⟩ := h
 refine pure_P (vc := callYd) callYd_ok mixed (by kernel_rfl) (by kernel_rfl) _ (e_yDec t _ _) ?_
 simp only [true_and, and_true]
 and_intros <;> try first | omega | decide | rfl
 intro v1 s1 e1 r1 i1
 have q1 := r1.le
 and_intros <;> try first | omega | decide | rfl
 intro n s2 e2 r2 i2
 have q2 := r2.le
 have lp := yD_loop t v1 n i2 i1 Post h n 0 s2 e2 [] (Nat.zero_add _) rfl (by omega) (r1.trans r2) (fun x hx => by cases hx)
 and_intros <;> first | omega | decide | rfl | exact lp
theorem callO_ok : PCallOk Tryz.prog callO := inlP_ok mixed (ofV_ok (tabCall_ok (by
 intro e he
 simp only [List.mem_cons, List.not_mem_nil, or_false] at he
 subst he
 exact ok_yD) (itabCall_ok (by
 intro e he
 simp only [tabRd, List.mem_cons, List.not_mem_nil, or_false] at he
 rcases he with rfl | rfl | rfl | rfl
 ·exact ok_kI
 ·exact ok_kT
 ·exact ok_kL
 ·exact ok_kB) noCall_ok))) 4
inductive VisR (k a w : Int) (s : ByteArray) : Event → Int → ByteArray → Prop
 | body {vs : List Va} {es : List (List Va)} {r : ByteArray} (hk : k ≠ 1) (h : rdBody k.toNat s = .ok (vs, es) r) : VisR k a w s (mkEv k a vs es) w r
 | order {t r : ByteArray} {o : Order2} {v : Int} (hk : k = 1) (h : rsT 1048576 s = .ok t r) (ho : OrdR t o v) : VisR k a w s { evt0 with kind := k, at_ := a, order := o } v r
def c_vr2 (args : List Value) (conts : List (List Value)) (Post : Out → List (List Value) → Prop) : Prop :=
 ∃ (k a w : Int) (s : ByteArray), args = argsR ∧ conts = [cells0 k a, [ptr2, .int .i64 w], [.string s, .int .i64 0]] ∧ 1 ≤ k ∧ k ≤ 18 ∧ s.size < 4611686018427387904 ∧
  (∀ x v r, VisR k a w s x v r → Post retU [eventC x, [ptr2, .int .i64 v], [.string r, .int .i64 0]]) ∧
  ∀ e, rdX k s = .err e → ∀ r, allN 40 fun c => Post (panE e) [c, [ptr2, .int .i64 w], [.string r, .int .i64 (.ofNat (e + 1))]]
theorem ok_vr2 : XEntOk Tryz.prog ⟨22, c_vr2⟩ := by
 rintro args conts Post ⟨k, a, w, s, rfl, rfl, k1, k2, hs, hO, hE⟩
 by_cases hk : k = 1
 ·subst hk
  have hE' : ∀ e, rsT 1048576 s = .err e → ∀ r c, c.length = 40 → Post (panE e) [c, [ptr2, .int .i64 w], [.string r, .int .i64 (.ofNat (e + 1))]] := fun e he r c hc => allN_get (hE e (by unfold rdX; rw [if_pos rfl, he]; rfl) r) c hc
  clear hE
  refine specX_lax (N := 2) (Q := fun r ls => ∃ c c' rest, ls = c :: rest ∧ lax c c' ∧ Post r (c' :: rest)) ?_ fun r ls h => h
  refine spec_X callO_ok mixed (by kernel_rfl) (by kernel_rfl) [(19, [0, 1, 132, 133]), (31, [0, 1, 203, 204]), (55, [0, 1, 330, 331])] (e_rd1 a w s _ _) ?_
  simp only [true_and, and_true]
  and_intros <;> try first | omega | decide | rfl
  ·intro t r ht
   have q := leT ht
   have q2 := ftT ht
   and_intros <;> try first | omega | decide | rfl
   intro o v ho
   have hz := hO _ v r (.order rfl ht ho)
   and_intros <;> try first | omega | decide | rfl
   exact ⟨_, _, _, rfl, by repeat' (first | exact trivial | refine ⟨.inl rfl, ?_⟩ | refine ⟨.inr ⟨rfl, _, rfl⟩, ?_⟩), hz⟩
  ·intro e he
   have hz := fun c hc => hE' e he s c hc
   and_intros <;> try first | omega | decide | rfl
   exact ⟨_, _, _, rfl, lax_refl _, hz _ rfl⟩
 ·exact ok_vr argsR _ Post ⟨k, a, w, s, rfl, rfl, by omega, k2, hs, fun vs es r h x hx => by subst hx; exact hO _ w r (.body hk h), fun e he r => hE e (by unfold rdX; rw [if_neg hk, he]; rfl) r⟩
def callEv2 : PCall := inlP Tryz.prog [63, 79, 80, 64, 81] (xtabCall [⟨22, c_vr2⟩] (ofV (itabCall tabRd noCall))) 5
def callDeN : PCall := inlP Tryz.prog [36] (inlD Tryz.prog [37] callEv2 noP) 2
theorem e_decN (s : ByteArray) (H : HT) (Post : PX) : vcX Tryz.prog callDeN 16 [] [] [.string s] H Post = (let t36 := [vz, vi 0, vi 0, vi 0]; let t20 := vz :: vi 0 :: tree 5 0 #[] :: vz :: vi 0 :: tree 1 0 #[] :: vz :: vi 0 :: vi 0 :: vi 0 :: vi 0 :: vi 0 :: vi 0 :: tree 1 0 #[] :: vz :: tree 4 0 #[] :: t36; let h20 := fun (t : List Value) => vi 0 :: vi 0 :: vz :: vz :: vz :: vi 0 :: vb false :: vz :: tree 38 0 #[] :: vz :: vz :: vi 0 :: vi 0 :: vi 0 :: vz :: vz :: vz :: vz :: vi 0 :: vz :: t; let q1 := True ∧ (T32 (T8 (True))) ∧ True ∧ True; T16 (T8 (True ∧ true = true ∧ s.size < 4611686018427387904 ∧ (∀ (v : Int) (r : ByteArray), rsI 1 18 s = Rs.ok v r → 1 = 1 ∧ True ∧ 1 ≤ 40 ∧ T16 (T8 (T2 (true = true ∧ r.size < 4611686018427387904 ∧ (∀ (v_1 : Int) (r_1 : ByteArray), rsI 0 1048576 r = Rs.ok v_1 r_1 → 1 = 1 ∧ True ∧ 2 ≤ 40 ∧ T16 (T2 (True ∧ ∃ (k : Int), ∃ (a : Int), ∃ (w : Int), ∃ (s : ByteArray), eqL [pt 0, Value.iface 88 (pt 1)] [pt 0, Value.iface 88 (pt 1)] ∧ [(vi v :: vi v_1 :: vz :: vz :: vz :: vi 0 :: vb false :: vz :: nS :: vz :: vz :: vi 0 :: vi 0 :: vi 0 :: vz :: vz :: vz :: vz :: vi 0 :: vz :: vz :: vi 0 :: nS :: vz :: vi 0 :: nS :: vz :: vi 0 :: vi 0 :: vi 0 :: vi 0 :: vi 0 :: vi 0 :: nS :: vz :: nS :: t36), [pt 2, vi 0], [vs r_1, vi 0]] = [(vi k :: vi a :: vz :: vz :: vz :: vi 0 :: vb false :: vz :: nS :: vz :: vz :: vi 0 :: vi 0 :: vi 0 :: vz :: vz :: vz :: vz :: vi 0 :: vz :: vz :: vi 0 :: nS :: vz :: vi 0 :: nS :: vz :: vi 0 :: vi 0 :: vi 0 :: vi 0 :: vi 0 :: vi 0 :: nS :: vz :: nS :: t36), [pt 2, vi w], [vs s, vi 0]] ∧ 1 ≤ k ∧ k ≤ 18 ∧ s.size < 4611686018427387904 ∧ (∀ (x : Event) (v : Int) (r : ByteArray), VisR k a w s x v r → 3 = 3 ∧ T16 (T8 (T4 (T2 (True ∧ pIf (decide ((↑r.size : Int) > 0)) (T8 (T4 (T2 (40 ≤ 40 ∧ 1 ≤ 1 ∧ T4 (40 ≤ 40 ∧ T4 (T2 (True ∧ 40 ≤ 40 ∧ True ∧ q1 ∧ true = true ∧ Post (Out.ret (Value.tuple #[Value.agg (h20 t20).toArray, vi 4])) []))))))) (T8 (T2 (True ∧ 40 ≤ 40 ∧ True ∧ 1 ≤ 1 ∧ T4 (T2 (True ∧ 40 ≤ 40 ∧ T2 (True ∧ pIf (decide (v = 0)) (True ∧ False) (T2 (pIf (!decide (v = 0)) (T2 (40 ≤ 40 ∧ True ∧ q1 ∧ true = true ∧ Post (Out.ret (Value.tuple #[Value.agg (h20 t20).toArray, vi v])) [])) (True ∧ 40 ≤ 40 ∧ True ∧ q1 ∧ true = true ∧ Post (Out.ret (Value.tuple #[Value.agg (evK x.kind x).toArray, vi 0])) [])))))))))))))) ∧ ∀ (e : Nat), rdX k s = Rs.err e → ∀ (r : ByteArray) (v v v v v v v v v v v v v v v v v v v v v v v v v v v v v v v v v v v v v v v v : Value), 3 = 3 ∧ T4 (T2 (True ∧ 40 ≤ 40 ∧ 1 ≤ 1 ∧ T4 (40 ≤ 40 ∧ T4 (T2 (True ∧ 40 ≤ 40 ∧ True ∧ q1 ∧ true = true ∧ Post (Out.ret (Value.tuple #[Value.agg (h20 t20).toArray, vi (Int.ofNat (e + 1))])) [])))))))) ∧ ∀ (e : Nat), rsI 0 1048576 r = Rs.err e → 1 = 1 ∧ True ∧ 2 ≤ 40 ∧ T16 (T8 (T2 (40 ≤ 40 ∧ 1 ≤ 1 ∧ T4 (40 ≤ 40 ∧ T4 (T2 (True ∧ 40 ≤ 40 ∧ True ∧ q1 ∧ true = true ∧ Post (Out.ret (Value.tuple #[Value.agg (h20 t20).toArray, vi (Int.ofNat (e + 1))])) [])))))))))) ∧ ∀ (e : Nat), rsI 1 18 s = Rs.err e → 1 = 1 ∧ True ∧ 1 ≤ 40 ∧ T16 (T8 (T2 (40 ≤ 40 ∧ 1 ≤ 1 ∧ T4 (40 ≤ 40 ∧ T4 (T2 (True ∧ 40 ≤ 40 ∧ True ∧ q1 ∧ true = true ∧ Post (Out.ret (Value.tuple #[Value.agg (h20 t20).toArray, vi (Int.ofNat (e + 1))])) []))))))))) := by kernel_rfl
theorem callDeN_ok : PCallOk Tryz.prog callDeN := inlP_ok mixed (inlD_ok mixed (inlP_ok mixed (xtabCall_ok (by
 intro e he
 simp only [List.mem_cons, List.not_mem_nil, or_false] at he
 subst he
 exact ok_vr2) (ofV_ok (itabCall_ok (by
 intro e he
 simp only [tabRd, List.mem_cons, List.not_mem_nil, or_false] at he
 rcases he with rfl | rfl | rfl | rfl
 ·exact ok_kI
 ·exact ok_kT
 ·exact ok_kL
 ·exact ok_kB) noCall_ok))) 5) noP_ok) 2
theorem VisR.rd {k a w v : Int} {s r : ByteArray} {x : Event} (h : VisR k a w s x v r) : rdX k s = .ok () r := by
 cases h with
 | body hk h => unfold rdX; rw [if_neg hk, h]; rfl
 | order hk h ho => unfold rdX; rw [if_pos hk, h]; rfl
def c_decE (args : List Value) (Post : Value → Prop) : Prop := match args with
 | [.string s] => s.size < 4611686018427387904 ∧ ∃ e, rdE s = .err e ∧ Post (.tuple #[eventV evt0, .int .i64 (.ofNat (e + 1))])
 | _ => False
theorem ok_decE : EntOk Tryz.prog ⟨16, c_decE⟩ := by
 intro args Post hc
 unfold c_decE at hc
 dsimp only at hc
 split at hc
 case h_2 => exact hc.elim
 rename_i s
 obtain ⟨hs, e, he, h⟩ := hc
 refine B.pure_of_X ?_
 refine spec_X (conts := []) callDeN_ok mixed (by kernel_rfl) (by kernel_rfl) [] (e_decN s _ _) ?_
 simp only [true_and, and_true]
 have hE : ∀ e', rdE s = .err e' → B.retV Post (.ret (.tuple #[eventV evt0, .int .i64 (.ofNat (e' + 1))])) [] := fun e' c => by
  rw [he] at c
  cases c
  exact h
 clear h
 repeat' (first | exact rfl | refine And.intro ?_ ?_ | trivial | decide | omega)
 rotate_left
 ·intro e ee
  repeat' (first | exact rfl | refine And.intro ?_ ?_ | trivial | decide | omega | exact hE e (by simp only [rdE, Rs.bind, ee]))
 intro k r ek
 have q1 := leI ek
 have f1 := ftI ek
 repeat' (first | exact rfl | refine And.intro ?_ ?_ | trivial | decide | omega)
 rotate_left
 ·intro e ee
  repeat' (first | exact rfl | refine And.intro ?_ ?_ | trivial | decide | omega | exact hE e (by simp only [rdE, Rs.bind, ek, ee]))
 intro a r1 ea
 have q2 := leI ea
 repeat' (first | exact rfl | refine And.intro ?_ ?_ | trivial | decide | omega)
 refine ⟨k, a, 0, r1, rfl, by omega, by omega, by omega, fun x v r2 er => ?_, fun e ee r2 => ?_⟩
 ·have hr := er.rd
  refine pIfD (fun hz => ?_) (fun hz => ?_)
  ·repeat' (first | exact rfl | refine And.intro ?_ ?_ | trivial | decide | omega | exact hE 3 (by simp only [rdE, Rs.bind, ek, ea, hr]; rw [if_neg (by omega)]))
  ·exfalso
   have hq : rdE s = .ok () r2 := by simp only [rdE, Rs.bind, ek, ea, hr]; rw [if_pos (by omega)]
   rw [he] at hq
   cases hq
 ·intros
  repeat' (first | exact rfl | refine And.intro ?_ ?_ | trivial | decide | omega | exact hE e (by simp only [rdE, Rs.bind, ek, ea, ee]))
def w_I (args : List Value) (Post : Value → Prop) : Prop := match args with
 | [.int .i64 n] => (-9223372036854775808 ≤ n ∧ n < 9223372036854775808) ∧ Post (.string (bInt n))
 | _ => False
def w_T (args : List Value) (Post : Value → Prop) : Prop := match args with
 | [.string s] => s.size ≤ 16000000 ∧ Post (.string (bText s))
 | _ => False
def w_L (args : List Value) (Post : Value → Prop) : Prop := match args with
 | [.int .i64 n] => (0 ≤ n ∧ n < 9223372036854775808) ∧ Post (.string (bList n.toNat))
 | _ => False
structure WrOk (x : Event) : Prop where
 k1 : 1 ≤ x.kind
 k2 : x.kind ≤ 18
 fit : fits (shN x.kind.toNat) (vaN x x.kind.toNat) ∧ fitsL x x.kind.toNat
 inO : InOrder x.order
 few : FewO x.order
 ord : (bOrder x.order).size ≤ 16000000
theorem WrOk.fitK {x : Event} (h : WrOk x) {k : Nat} (hk : x.kind = k) : fits (shN k) (vaN x k) := by
 have := h.fit.1
 rw [hk] at this
 exact this
theorem one_size {b : Bool} : (bBool b).size = 1 := by cases b <;> rfl
def callRN : VCall := inlCall Tryz.prog [53, 54] noCall 2
theorem e_rName (s : ByteArray) (H : HT) (Post : PV) : vcP Tryz.prog callRN 27 [(4, [0, 3])] [.string s] H Post = (let q1 := (↑(UInt8.toNat (Array.getD (ByteArray.data s) 0 0)) : Int); let q2 := T2 (True ∧ pIf (decide (q1 ≤ 90)) (T8 (H (lpC Tryz.prog 27 4) (lpK Tryz.prog 27 4) (stV [(0, some (vs s)), (3, some (vi 0))] [] 0))) (T4 (T2 (True ∧ Post (vb false))))); T2 (True ∧ pIf (decide (s = ByteArray.mk #[])) (T4 (T2 (Post (vb false)))) (T4 (pIf (decide ((↑s.size : Int) > 16)) (T4 (True ∧ Post (vb false))) (T2 (True ∧ (toI (vi 0) ≤ 0 ∧ 0 < (↑s.size : Int)) ∧ T2 (True ∧ pIf (decide (q1 ≥ 97)) (T2 (True ∧ pIf (decide (q1 ≤ 122)) (T8 (True ∧ H (lpC Tryz.prog 27 4) (lpK Tryz.prog 27 4) (stV [(0, some (vs s)), (3, some (vi 0))] [] 0))) (T4 (pIf (decide (q1 ≥ 65)) q2 (T8 (Post (vb false))))))) (T4 (True ∧ pIf (decide (q1 ≥ 65)) q2 (T8 (Post (vb false)))))))))))) := by kernel_rfl
theorem l_rName (s : ByteArray) (i : Int) (H : HT) (Post : PV) : vcLP Tryz.prog callRN 27 [.string s] [(4, [0, 3])] 4 (stV [(0, some (.string s)), (3, some (.int .i64 i))] [] 0) H Post = (let q4 := (0 ≤ i ∧ i < (↑s.size : Int)); let q2 := (↑(UInt8.toNat (Array.getD (ByteArray.data s) (Int.toNat i) 0)) : Int); let q3 := stV [(0, some (vs s)), (3, some (vi (IntKind.wrap IntKind.i64 (i + 1))))] [] 0; let q5 := H (lpC Tryz.prog 27 4) (lpK Tryz.prog 27 4) q3; let q7 := T4 (q4 ∧ True ∧ pIf (!decide (q2 = 45)) (T2 (True ∧ Post (vb false))) (T4 (T2 q5))); let q1 := True ∧ pIf (decide (q2 ≥ 48)) (T2 (True ∧ pIf (decide (q2 ≤ 57)) (T8 (T4 (True ∧ H (lpC Tryz.prog 27 4) (lpK Tryz.prog 27 4) q3))) (T4 (T2 (True ∧ q4 ∧ True ∧ pIf (!decide (q2 = 95)) q7 (T8 q5)))))) (T8 (q4 ∧ True ∧ pIf (!decide (q2 = 95)) q7 (T8 q5))); let q6 := T2 (True ∧ pIf (decide (q2 ≤ 90)) (T8 (T4 (T2 (True ∧ H (lpC Tryz.prog 27 4) (lpK Tryz.prog 27 4) q3)))) (T4 (T2 (True ∧ q4 ∧ T2 q1)))); T4 (pIf (decide (i < (↑s.size : Int))) (T2 (q4 ∧ T2 (True ∧ pIf (decide (q2 ≥ 97)) (T2 (True ∧ pIf (decide (q2 ≤ 122)) (T16 q5) (T4 (pIf (decide (q2 ≥ 65)) q6 (T8 (q4 ∧ T2 q1)))))) (T4 (True ∧ pIf (decide (q2 ≥ 65)) q6 (T8 (q4 ∧ T2 q1))))))) (T2 (Post (vb true))))) := by kernel_rfl
theorem callRN_ok : VCallOk Tryz.prog callRN := inlCall_ok mixed noCall_ok 2
def byteI (s : ByteArray) (i : Nat) : Int := ((s.data.getD i 0).toNat : Int)
def ltr (c : Int) : Prop := 97 ≤ c ∧ c ≤ 122 ∨ 65 ≤ c ∧ c ≤ 90
def nchr (c : Int) : Prop := ltr c ∨ 48 ≤ c ∧ c ≤ 57 ∨ c = 95 ∨ c = 45
instance (c : Int) : Decidable (ltr c) := by unfold ltr; infer_instance
instance (c : Int) : Decidable (nchr c) := by unfold nchr; infer_instance
def nameOk (s : ByteArray) : Prop := 1 ≤ s.size ∧ s.size ≤ 16 ∧ ltr (byteI s 0) ∧ ∀ i, i < s.size → nchr (byteI s i)
instance (s : ByteArray) : Decidable (nameOk s) := by unfold nameOk; infer_instance
def c_name (args : List Value) (Post : Value → Prop) : Prop := match args with
 | [.string s] => Post (.bool (decide (nameOk s)))
 | _ => False
theorem size_zero {s : ByteArray} (h : s.size = 0) : s = ⟨#[]⟩ := by
 refine ba_ext ?_
 have : s.data.toList.length = 0 := by rw [Array.length_toList]; exact h
 rw [List.length_eq_zero_iff.1 this]
theorem ok_rName : EntOk Tryz.prog ⟨27, c_name⟩ := by
 intro args Post h
 unfold c_name at h
 dsimp only at h
 split at h
 case h_2 => exact h.elim
 rename_i s
 refine pure_P (vc := callRN) callRN_ok mixed (by kernel_rfl) (by kernel_rfl) _ (e_rName s _ _) ?_
 have no : ¬ nameOk s → Post (.bool false) := fun hn => of_b h (decide_eq_false hn)
 have all : s.size ≤ 16 → ltr (byteI s 0) → OkP 27 [.string s] 4 Post (stV [(0, some (.string s)), (3, some (.int .i64 (0 : Nat)))] [] 0) := fun h16 hl => by
  refine down (n := s.size) (p := fun k => (∀ i, i < k → nchr (byteI s i)) → OkP 27 [.string s] 4 Post (stV [(0, some (.string s)), (3, some (.int .i64 k))] [] 0)) (fun hall => ?_) (fun k hk ih hall => ?_) (fun i hi => by omega)
  ·refine ok_P (vc := callRN) callRN_ok mixed _ (l_rName s _ _ _) ?_
   have hy : Post (.bool true) := of_b h (decide_eq_true ⟨by
    rcases Nat.eq_zero_or_pos s.size with h0 | h0
    ·rw [size_zero h0] at hl; exact absurd hl (by decide)
    ·exact h0, h16, hl, hall⟩)
   simp only [true_and, pIf_iff, decide_eq_true_eq, decide_eq_false_iff_not, and_true]
   exact ⟨fun hh => by omega, fun _ => hy⟩
  ·refine ok_P (vc := callRN) callRN_ok mixed _ (l_rName s _ _ _) ?_
   have hX : nchr (byteI s k) → OkP 27 [.string s] 4 Post (stV [(0, some (.string s)), (3, some (.int .i64 ((k + 1 : Nat) : Int)))] [] 0) := fun hk' => ih fun i hi => by
    rcases Nat.lt_or_ge i k with h' | h'
    ·exact hall i h'
    ·obtain rfl : i = k := by omega
     exact hk'
   have hY : ¬ nchr (byteI s k) → Post (.bool false) := fun hn => no fun f => hn (f.2.2.2 k hk)
   rw [wrapSucc (by omega)]
   simp only [Int.toNat_natCast]
   change nchr (byteI s k) → OkAt _ _ _ _ _ _ _ at hX
   have ec : ((s.data.getD k 0).toNat : Int) = byteI s k := rfl
   simp only [ec]
   unfold nchr ltr at hX hY
   generalize byteI s k = c at hX hY ⊢
   simp only [true_and, and_true, pIf_iff, decide_eq_true_eq, decide_eq_false_iff_not, Bool.not_eq_eq_eq_not, Bool.not_true, Bool.not_false]
   repeat' (first
    | exact hX (by omega)
    | exact hY (by omega)
    | refine And.intro ?_ ?_
    | omega
    | intro _)
 simp only [true_and, and_true, pIf_iff, decide_eq_true_eq, decide_eq_false_iff_not]
 have ec : ((s.data.getD 0 0).toNat : Int) = byteI s 0 := rfl
 simp only [ec]
 refine ⟨fun h0 => no fun f => ?_, fun h0 => ⟨fun h1 => no fun f => ?_, fun h1 => ?_⟩⟩
 ·rw [h0] at f; exact absurd f.1 (by decide)
 ·have := f.2.1; omega
 have hs0 : s.size ≠ 0 := fun h' => h0 (size_zero h')
 have hX : ltr (byteI s 0) → OkAt _ _ _ _ _ _ _ := all (by omega)
 have hY : ¬ ltr (byteI s 0) → Post (.bool false) := fun hn => no fun f => hn f.2.2.1
 unfold ltr at hX hY
 generalize byteI s 0 = c at hX hY ⊢
 repeat' (first
  | exact hX (by omega)
  | exact hY (by omega)
  | refine And.intro ?_ ?_
  | omega
  | decide
  | intro _)
theorem e_parts (s : ByteArray) (H : HT) (Post : PV) : vcP Tryz.prog noCall 52 [(4, [0, 3, 4, 5])] [.string s] H Post = (T4 (T2 (H (lpC Tryz.prog 52 4) (lpK Tryz.prog 52 4) (stV [(0, some (vs s)), (3, some (nS)), (4, some (vi 0)), (5, some (vi 0))] [] 0)))) := by kernel_rfl
theorem l_parts0 (s : ByteArray) (a i : Int) (H : HT) (Post : PV) : vcLP Tryz.prog noCall 52 [.string s] [(4, [0, 3, 4, 5])] 4 (stV [(0, some (.string s)), (3, some (.slice none 0 0)), (4, some (.int .i64 a)), (5, some (.int .i64 i))] [] 0) H Post = (let q1 := (NLs [vs (ByteArray.extract s (Int.toNat a) (Int.toNat i))] ∧ True) ∧ H (lpC Tryz.prog 52 4) (lpK Tryz.prog 52 4) (stV [(0, some (vs s)), (3, some (Value.slice (some (Addr.mk 0 0 none)) 1 1)), (4, some (vi (IntKind.wrap IntKind.i64 (i + 1)))), (5, some (vi (IntKind.wrap IntKind.i64 (i + 1))))] [(0, some (AObj.cells [vs (ByteArray.extract s (Int.toNat a) (Int.toNat i))] true))] 1); T4 (pIf (decide (i ≤ (↑s.size : Int))) (T4 (pIf (decide (i = (↑s.size : Int))) (T4 (T2 ((0 ≤ i ∧ 0 ≤ a ∧ Int.toNat a ≤ Int.toNat i ∧ Int.toNat i ≤ s.size) ∧ True ∧ 1 ≤ 1 ∧ 1 ≤ 33554432 ∧ true = true ∧ 1 = 1 ∧ T8 q1))) (T2 (True ∧ (0 ≤ i ∧ i < (↑s.size : Int)) ∧ True ∧ pIf (decide ((↑(UInt8.toNat (Array.getD (ByteArray.data s) (Int.toNat i) 0)) : Int) = 46)) (T4 (True ∧ (0 ≤ i ∧ 0 ≤ a ∧ Int.toNat a ≤ Int.toNat i ∧ Int.toNat i ≤ s.size) ∧ True ∧ 1 ≤ 1 ∧ 1 ≤ 33554432 ∧ true = true ∧ 1 = 1 ∧ T8 q1)) (T4 (T2 (H (lpC Tryz.prog 52 4) (lpK Tryz.prog 52 4) (stV [(0, some (vs s)), (3, some (nS)), (4, some (vi a)), (5, some (vi (IntKind.wrap IntKind.i64 (i + 1))))] [] 0)))))))) (T2 (True ∧ Post (tree 1 0 #[]))))) := by kernel_rfl
theorem l_parts1 (s : ByteArray) (a i : Int) (k : Nat) (l : List Value) (H : HT) (Post : PV) : vcLP Tryz.prog noCall 52 [.string s] [(4, [0, 3, 4, 5])] 4 (stV [(0, some (.string s)), (3, some (.slice (some ⟨0, 0, none⟩) k 1)), (4, some (.int .i64 a)), (5, some (.int .i64 i))] [(0, some (.cells l true))] 1) H Post = (let q1 := (NLs (l ++ [vs (ByteArray.extract s (Int.toNat a) (Int.toNat i))]) ∧ True) ∧ H (lpC Tryz.prog 52 4) (lpK Tryz.prog 52 4) (stV [(0, some (vs s)), (3, some (Value.slice (some (Addr.mk 0 0 none)) (k + 1) 1)), (4, some (vi (IntKind.wrap IntKind.i64 (i + 1)))), (5, some (vi (IntKind.wrap IntKind.i64 (i + 1))))] [(0, some (AObj.cells (l ++ [vs (ByteArray.extract s (Int.toNat a) (Int.toNat i))]) true))] 1); T4 (pIf (decide (i ≤ (↑s.size : Int))) (T4 (pIf (decide (i = (↑s.size : Int))) (T4 (T2 ((0 ≤ i ∧ 0 ≤ a ∧ Int.toNat a ≤ Int.toNat i ∧ Int.toNat i ≤ s.size) ∧ True ∧ 1 ≤ 1 ∧ k + 1 ≤ 33554432 ∧ true = true ∧ 1 = 1 ∧ 0 + k * 1 = List.length l ∧ T8 q1))) (T2 (True ∧ (0 ≤ i ∧ i < (↑s.size : Int)) ∧ True ∧ pIf (decide ((↑(UInt8.toNat (Array.getD (ByteArray.data s) (Int.toNat i) 0)) : Int) = 46)) (T4 (True ∧ (0 ≤ i ∧ 0 ≤ a ∧ Int.toNat a ≤ Int.toNat i ∧ Int.toNat i ≤ s.size) ∧ True ∧ 1 ≤ 1 ∧ k + 1 ≤ 33554432 ∧ true = true ∧ 1 = 1 ∧ 0 + k * 1 = List.length l ∧ T8 q1)) (T4 (True ∧ (NLs l ∧ True) ∧ H (lpC Tryz.prog 52 4) (lpK Tryz.prog 52 4) (stV [(0, some (vs s)), (3, some (Value.slice (some (Addr.mk 0 0 none)) k 1)), (4, some (vi a)), (5, some (vi (IntKind.wrap IntKind.i64 (i + 1))))] [(0, some (AObj.cells l true))] 1))))))) (T2 ((0 + k * 1 ≤ List.length l ∧ NLs l) ∧ Post (tree 1 k (chunks 1 k (List.drop 0 l))))))) := by kernel_rfl
theorem idx_is : ∀ {l : List UInt8} {m : Nat} (_ : m < l.length), (∀ j, j < m → l.getD j 0 ≠ 46) → l.getD m 0 = 46 → Lib.indexByte l 46 = m
 | [], m, hm, _, _ => by simp at hm
 | c :: l, m, hm, h, h46 => by
  unfold Lib.indexByte
  cases m with
  | zero =>
   have : c = 46 := by simpa using h46
   subst this
   rfl
  | succ m =>
   have hc : c ≠ 46 := by simpa using h 0 (by omega)
   have hb : (c == 46) = false := by simp [hc]
   have ih := idx_is (l := l) (m := m) (by simpa using hm) (fun j hj => by simpa using h (j + 1) (by omega)) (by simpa using h46)
   rw [hb, ih]
   simp only [Bool.false_eq_true, if_false]
   have : ((m : Int) == -1) = false := by simp
   rw [this]
   simp
theorem cnt_zero {l : List UInt8} (h : ∀ j, j < l.length → l.getD j 0 ≠ 46) : Lib.countByte l 46 = 0 := by
 unfold Lib.countByte
 rw [List.count_eq_zero]
 intro hm
 obtain ⟨j, hj, e⟩ := List.mem_iff_getElem.1 hm
 refine h j hj ?_
 simp [List.getD, List.getElem?_eq_getElem hj, e]
theorem pieces_ne (s : ByteArray) : pieces s ≠ [] := fun h => by
 have := congrArg List.length h
 unfold pieces at this
 rw [List.length_map, splitL_len] at this
 simp at this
def stParts (s : ByteArray) (done : List ByteArray) (a i : Nat) : AS := match done with
 | [] => stV [(0, some (.string s)), (3, some (.slice none 0 0)), (4, some (.int .i64 a)), (5, some (.int .i64 i))] [] 0
 | d :: ds => stV [(0, some (.string s)), (3, some (.slice (some ⟨0, 0, none⟩) (d :: ds).length 1)), (4, some (.int .i64 a)), (5, some (.int .i64 i))] [(0, some (.cells ((d :: ds).map Value.string) true))] 1
theorem NLs_str (l : List ByteArray) : NLs (l.map Value.string) := fun v hv => by
 obtain ⟨s, _, rfl⟩ := List.mem_map.1 hv
 rfl
def c_parts (args : List Value) (Post : Value → Prop) : Prop := ∃ s : ByteArray, args = [.string s] ∧ s.size < 16777216 ∧ Post (tree 1 (pieces s).length (encL (pieces s)))
theorem parts_round {s : ByteArray} {Post : Value → Prop} {done : List ByteArray} {a i : Nat} (hs : s.size < 16777216) (hk : done.length ≤ a) (ha : a ≤ i) (hi : i ≤ s.size)
  (h1 : i = s.size ∨ byteI s i = 46 → OkP 52 [.string s] 4 Post (stParts s (done ++ [s.extract a i]) (i + 1) (i + 1)))
  (h2 : i < s.size → byteI s i ≠ 46 → OkP 52 [.string s] 4 Post (stParts s done a (i + 1))) : OkP 52 [.string s] 4 Post (stParts s done a i) := by
 have ei : ((i : Nat) : Int).toNat = i := by omega
 have ea : ((a : Nat) : Int).toNat = a := by omega
 have ew : IntKind.i64.wrap ((i : Int) + 1) = ((i + 1 : Nat) : Int) := wrapSucc (by omega)
 have ec : ((s.data.getD i 0).toNat : Int) = byteI s i := rfl
 cases done with
 | nil =>
  refine ok_P (vc := noCall) noCall_ok mixed _ (l_parts0 s _ _ _ _) ?_
  simp only [ei, ea, ew, ec, true_and]
  refine pIf_intro (fun _ => ?_) (fun hh => by have := of_decide_eq_false hh; omega)
  refine pIf_intro (fun hh => ?_) (fun hh => ?_)
  ·exact ⟨⟨by omega, by omega, ha, hi⟩, by omega, by omega, ⟨NLs_str [s.extract a i], trivial⟩, h1 (.inl (by have := of_decide_eq_true hh; omega))⟩
  ·have hlt : i < s.size := by have := of_decide_eq_false hh; omega
   refine ⟨⟨by omega, by omega⟩, pIf_intro (fun hb => ?_) (fun hb => ?_)⟩
   ·exact ⟨⟨by omega, by omega, ha, hi⟩, by omega, by omega, ⟨NLs_str [s.extract a i], trivial⟩, h1 (.inr (of_decide_eq_true hb))⟩
   ·exact h2 hlt (of_decide_eq_false hb)
 | cons d ds =>
  refine ok_P (vc := noCall) noCall_ok mixed _ (l_parts1 s _ _ _ _ _ _) ?_
  simp only [ei, ea, ew, ec, true_and]
  have hlen : (d :: ds).length ≤ 16777216 := by omega
  have el : (List.map Value.string (d :: ds)) ++ [Value.string (s.extract a i)] = List.map Value.string (d :: ds ++ [s.extract a i]) := by simp
  have en : (d :: ds).length + 1 = (d :: ds ++ [s.extract a i]).length := by simp
  have fit : 0 + (d :: ds).length * 1 = (List.map Value.string (d :: ds)).length := by simp
  refine pIf_intro (fun _ => ?_) (fun hh => by have := of_decide_eq_false hh; omega)
  refine pIf_intro (fun hh => ?_) (fun hh => ?_)
  ·have hx := h1 (.inl (by have := of_decide_eq_true hh; omega))
   rw [el, en]
   exact ⟨⟨by omega, by omega, ha, hi⟩, by omega, by rw [← en]; omega, fit, ⟨NLs_str _, trivial⟩, hx⟩
  ·have hlt : i < s.size := by have := of_decide_eq_false hh; omega
   refine ⟨⟨by omega, by omega⟩, pIf_intro (fun hb => ?_) (fun hb => ?_)⟩
   ·have hx := h1 (.inr (of_decide_eq_true hb))
    rw [el, en]
    exact ⟨⟨by omega, by omega, ha, hi⟩, by omega, by rw [← en]; omega, fit, ⟨NLs_str _, trivial⟩, hx⟩
   ·exact ⟨⟨NLs_str _, trivial⟩, h2 hlt (of_decide_eq_false hb)⟩
theorem ok_parts : EntOk Tryz.prog ⟨52, c_parts⟩ := by
 rintro args Post ⟨s, rfl, hs, h⟩
 refine pure_P (vc := noCall) noCall_ok mixed (by kernel_rfl) (by kernel_rfl) _ (e_parts s _ _) ?_
 have hlast : OkP 52 [.string s] 4 Post (stParts s (pieces s) (s.size + 1) (s.size + 1)) := by
  cases hp : pieces s with
  | nil => exact absurd hp (pieces_ne s)
  | cons d ds =>
   refine ok_P (vc := noCall) noCall_ok mixed _ (l_parts1 s _ _ _ _ _ _) ?_
   simp only [true_and]
   refine pIf_intro (fun hh => by have := of_decide_eq_true hh; omega) (fun _ => ?_)
   rw [hp] at h
   have e : chunks 1 (d :: ds).length (List.drop 0 (List.map Value.string (d :: ds))) = encL (d :: ds) := by
    show ((List.map Value.string (d :: ds)).take _).toArray = _
    rw [List.take_of_length_le (by simp)]
    rfl
   rw [e]
   exact ⟨⟨by simp, NLs_str _⟩, h⟩
 have hll : s.data.toList.length = s.size := by rw [Array.length_toList]; rfl
 have hx : ∀ a, a ≤ s.size → (s.extract a s.size).data.toList = s.data.toList.drop a := fun a ha => by rw [ext_list, List.take_of_length_le (by rw [List.length_drop, hll]; omega)]
 have hby : ∀ i, byteI s i = 46 ↔ s.data.toList.getD i 0 = 46 := fun i => by
  unfold byteI
  have e : s.data.getD i 0 = s.data.toList.getD i 0 := by simp [Array.getD_eq_getD_getElem?, List.getD_eq_getElem?_getD]
  rw [e]
  constructor
  ·intro h'
   have : (s.data.toList.getD i 0).toNat = 46 := by omega
   exact UInt8.toNat_inj.1 (this.trans rfl)
  ·intro h'; rw [h']; rfl
 have key : ∀ (n i a : Nat) (done : List ByteArray), i + n = s.size → a ≤ i → done.length ≤ a → done ++ pieces (s.extract a s.size) = pieces s → (∀ j, a ≤ j → j < i → byteI s j ≠ 46) → OkP 52 [.string s] 4 Post (stParts s done a i) := by
  intro n
  induction n with
  | zero =>
   intro i a done hi ha hk hp hno
   obtain rfl : i = s.size := by omega
   refine parts_round hs hk ha (Nat.le_refl _) (fun _ => ?_) (fun hlt => by omega)
   have h0 : pieces (s.extract a s.size) = [s.extract a s.size] := by
    refine pieces_none (cnt_zero fun j hj => ?_)
    rw [hx a ha] at hj ⊢
    rw [List.length_drop, hll] at hj
    have := hno (a + j) (by omega) (by omega)
    rw [Ne, hby] at this
    simpa [List.getD_eq_getElem?_getD] using this
   rw [h0] at hp
   rw [hp]
   exact hlast
  | succ n ih =>
   intro i a done hi ha hk hp hno
   refine parts_round hs hk ha (by omega) (fun hor => ?_) (fun hlt hb => ?_)
   ·have h46 : byteI s i = 46 := by
     rcases hor with h' | h'
     ·omega
     ·exact h'
    have hidx : Lib.indexByte (s.extract a s.size).data.toList 46 = ((i - a : Nat) : Int) := by
     rw [hx a (by omega)]
     refine idx_is (by rw [List.length_drop, hll]; omega) (fun j hj => ?_) ?_
     ·have := hno (a + j) (by omega) (by omega)
      rw [Ne, hby] at this
      simpa [List.getD_eq_getElem?_getD] using this
     ·have := (hby i).1 h46
      have e : a + (i - a) = i := by omega
      simpa [List.getD_eq_getElem?_getD, e] using this
    obtain ⟨g1, g2, _⟩ := pieces_some hidx
    have e1 : (s.extract a s.size).extract 0 (i - a) = s.extract a i := by
     refine ba_ext ?_
     rw [ext_list, hx a (by omega), ext_list]
     simp
    have e2 : (s.extract a s.size).extract (i - a + 1) (s.extract a s.size).size = s.extract (i + 1) s.size := by
     refine ba_ext ?_
     rw [ext_list, hx a (by omega), hx (i + 1) (by omega), List.drop_drop, List.take_of_length_le (by rw [List.length_drop, hll, ext_size]; omega)]
     congr 1
     omega
    rw [e1, e2] at g2
    exact ih (i + 1) (i + 1) _ (by omega) (Nat.le_refl _) (by simp; omega) (by rw [← hp, g2]; simp) (fun j h1 h2 => by omega)
   ·exact ih (i + 1) a done (by omega) (by omega) hk hp (fun j h1 h2 => by
     rcases Nat.lt_or_ge j i with h' | h'
     ·exact hno j h1 h'
     ·obtain rfl : j = i := by omega
      exact hb)
 have := key s.size 0 0 [] (by omega) (Nat.le_refl _) (Nat.le_refl _) (by
  have : s.extract 0 s.size = s := by
   refine ba_ext ?_
   rw [hx 0 (by omega), List.drop_zero]
  rw [this]; rfl) (fun j h1 h2 => by omega)
 repeat (first | exact this | refine And.intro trivial ?_)
def namesOk (l : List ByteArray) : Prop := 1 ≤ l.length ∧ l.length ≤ 8 ∧ (∀ p ∈ l, nameOk p) ∧ l.length + volL l ≤ 65
instance (l : List ByteArray) : Decidable (namesOk l) := by unfold namesOk; infer_instance
def idOk (s : ByteArray) : Prop := s.size ≤ 64 ∧ (pieces s).length ≤ 8 ∧ ∀ p ∈ pieces s, nameOk p
instance (s : ByteArray) : Decidable (idOk s) := by unfold idOk; infer_instance
def tabRId : List Ent := [⟨52, c_parts⟩, ⟨27, c_name⟩]
theorem e_rid (s : ByteArray) (H : HT) (Post : PV) : vcP Tryz.prog (tabCall tabRId noCall) 25 [(5, [3, 4])] [.string s] H Post = (T2 (∃ (s_1 : ByteArray), eqL [vs s] [vs s_1] ∧ s_1.size < 16777216 ∧ T4 (pIf (decide ((↑s.size : Int) > 64)) (T4 (Post (vb false))) (T4 (pIf (decide ((↑(List.length (pieces s_1)) : Int) > 8)) (T2 (True ∧ Post (vb false))) (T4 (H (lpC Tryz.prog 25 5) (lpK Tryz.prog 25 5) (stV [(3, some (tree 1 (List.length (pieces s_1)) (encL (pieces s_1)))), (4, some (vi 0))] [] 0)))))))) := by kernel_rfl
theorem l_rid (s : ByteArray) (n : Nat) (A : Array Value) (i : Int) (H : HT) (Post : PV) : vcLP Tryz.prog (tabCall tabRId noCall) 25 [.string s] [(5, [3, 4])] 5 (stV [(3, some (tree 1 n A)), (4, some (.int .i64 i))] [] 0) H Post = (T4 (pIf (decide (i < (↑n : Int))) (T2 ((0 ≤ i ∧ i < (↑n : Int)) ∧ cellAt A (Int.toNat i) 0 = vs (toS (cellAt A (Int.toNat i) 0)) ∧ pIf (decide (nameOk (toS (cellAt A (Int.toNat i) 0)))) (T4 (T2 (H (lpC Tryz.prog 25 5) (lpK Tryz.prog 25 5) (stV [(3, some (tree 1 n A)), (4, some (vi (IntKind.wrap IntKind.i64 (i + 1))))] [] 0)))) (T2 (True ∧ Post (vb false))))) (T2 (Post (vb true))))) := by kernel_rfl
def c_id (args : List Value) (Post : Value → Prop) : Prop := ∃ s : ByteArray, args = [.string s] ∧ s.size < 16777000 ∧ Post (.bool (decide (idOk s)))
theorem ok_rid : EntOk Tryz.prog ⟨25, c_id⟩ := by
 rintro args Post ⟨s, rfl, hs, h⟩
 have hok : VCallOk Tryz.prog (tabCall tabRId noCall) := tabCall_ok (by
  intro e he
  simp only [tabRId, List.mem_cons, List.not_mem_nil, or_false] at he
  rcases he with rfl | rfl
  ·exact ok_parts
  ·exact ok_rName) noCall_ok
 refine pure_P (vc := tabCall tabRId noCall) hok mixed (by kernel_rfl) (by kernel_rfl) _ (e_rid s _ _) ?_
 simp only [true_and]
 have no : ¬ idOk s → Post (.bool false) := fun hn => of_b h (decide_eq_false hn)
 refine ⟨s, rfl, by omega, pIf_intro (fun h1 => no fun f => absurd f.1 (by have := of_decide_eq_true h1; omega)) (fun h1 => ?_)⟩
 refine pIf_intro (fun h2 => no fun f => absurd f.2.1 (by have := of_decide_eq_true h2; omega)) (fun h2 => ?_)
 have h1 := of_decide_eq_false h1
 have h2 := of_decide_eq_false h2
 have key := down (n := (pieces s).length) (p := fun k => (∀ i (hi : i < (pieces s).length), i < k → nameOk (pieces s)[i]) → OkP 25 [.string s] 5 Post (stV [(3, some (tree 1 (pieces s).length (encL (pieces s)))), (4, some (.int .i64 k))] [] 0)) (fun hall => ?_) (fun k hk ih hall => ?_) (fun i hi h0 => by omega)
 ·exact key
 ·refine ok_P (vc := tabCall tabRId noCall) hok mixed _ (l_rid _ _ _ _ _ _) ?_
  simp only [true_and]
  refine pIf_intro (fun hh => by have := of_decide_eq_true hh; omega) (fun _ => ?_)
  refine of_b h (decide_eq_true ⟨by omega, by omega, fun p hp => ?_⟩)
  obtain ⟨i, hi, rfl⟩ := List.mem_iff_getElem.1 hp
  exact hall i hi hi
 ·refine ok_P (vc := tabCall tabRId noCall) hok mixed _ (l_rid _ _ _ _ _ _) ?_
  have ek : ((k : Nat) : Int).toNat = k := by omega
  simp only [true_and, ek, cell_str hk, toS]
  refine pIf_intro (fun _ => ?_) (fun hh => by have := of_decide_eq_false hh; omega)
  refine ⟨⟨by omega, by omega⟩, pIf_intro (fun hn => ?_) (fun hn => no fun f => absurd (f.2.2 _ (List.getElem_mem hk)) (of_decide_eq_false hn))⟩
  rw [wrapSucc (by omega)]
  exact ih fun i hi hik => by
   rcases Nat.lt_or_ge i k with h' | h'
   ·exact hall i hi h'
   ·obtain rfl : i = k := by omega
    exact of_decide_eq_true hn
def isItem (k : Int) : Prop := k = 4 ∨ k = 7 ∨ k = 8 ∨ k = 12 ∨ k = 16 ∨ k = 9 ∨ k = 11 ∨ k = 10
def isOf (k : Int) : Prop := k = 9 ∨ k = 11
def isBy (k : Int) : Prop := k = 9 ∨ k = 11 ∨ k = 4
instance (k : Int) : Decidable (isItem k) := by unfold isItem; infer_instance
instance (k : Int) : Decidable (isOf k) := by unfold isOf; infer_instance
instance (k : Int) : Decidable (isBy k) := by unfold isBy; infer_instance
def namedOk (x : Event) : Prop := (isItem x.kind → idOk x.item) ∧ (isOf x.kind → nameOk x.of_) ∧ (isBy x.kind → nameOk x.by_)
instance (x : Event) : Decidable (namedOk x) := by unfold namedOk; infer_instance
def checkE (x : Event) : Int :=
 if ¬ (1 ≤ x.kind ∧ x.kind ≤ 18) then 10
 else if x.at_ < 0 ∨ 1048576 < x.at_ then 15
 else if ¬ x = plainK x.kind x then 2
 else if ¬ namedOk x then 6
 else if longK x.kind x = true then 4
 else if farK x.kind x = true then 9
 else 0
theorem check0 {x : Event} (h : checkE x = 0) : 1 ≤ x.kind ∧ x.kind ≤ 18 ∧ 0 ≤ x.at_ ∧ x.at_ ≤ 1048576 ∧ x = plainK x.kind x ∧ longK x.kind x = false ∧ farK x.kind x = false := by
 unfold checkE at h
 split at h
 ·cases h
 rename_i hk
 split at h
 ·cases h
 rename_i ha
 split at h
 ·cases h
 rename_i hp
 split at h
 ·cases h
 split at h
 ·cases h
 rename_i hl
 split at h
 ·cases h
 rename_i hf
 have hk := Classical.not_not.1 hk
 exact ⟨hk.1, hk.2, by omega, by omega, Classical.not_not.1 hp, by simpa using hl, by simpa using hf⟩
def encR (x : Event) : ByteArray × Int := if checkE x = 0 then (bEv x, 0) else (⟨#[]⟩, checkE x)
theorem bInt_pos (n : Int) : 0 < (bInt n).size := by
 unfold bInt
 have : ∀ k v, 0 < (hd k v).length := fun k v => by
  unfold hd
  split
  ·simp
  split
  ·simp
  split
  ·simp
  split <;> simp
 split <;> (rw [str_size]; exact this _ _)
def callRPl : VCall := inlCall Tryz.prog [24, 26, 28] noCall 2
theorem callRPl_ok : VCallOk Tryz.prog callRPl := inlCall_ok mixed noCall_ok 2
theorem e_rplain1 (x : Event) (H : HT) (Post : PV) : vcP Tryz.prog callRPl 23 [] [.agg (.int .i64 1 :: (eventC x).tail).toArray] H Post = (T8 (40 ≤ 40 ∧ T32 (T16 (T8 (True ∧ 9 ≤ 40 ∧ True ∧ 40 ≤ 40 ∧ (T32 (T8 (True))) ∧ Post (Value.agg #[vi 1, vi x.at_, vz, vz, vz, vi 0, vb false, vs x.order.id, tree 38 x.order.edits.length (encL x.order.edits), vz, vz, vi 0, vi 0, vi 0, vz, vz, vz, vz, vi 0, vz, vz, vi 0, tree 5 0 #[], vz, vi 0, tree 1 0 #[], vz, vi 0, vi 0, vi 0, vi 0, vi 0, vi 0, tree 1 0 #[], vz, tree 4 0 #[], vz, vi 0, vi 0, vi 0])))))) := by kernel_rfl
theorem e_rplain2 (x : Event) (H : HT) (Post : PV) : vcP Tryz.prog callRPl 23 [] [.agg (.int .i64 2 :: (eventC x).tail).toArray] H Post = (T8 (40 ≤ 40 ∧ T32 (T16 (T8 (T2 (True ∧ 15 ≤ 40 ∧ True ∧ 40 ≤ 40 ∧ (T32 (T8 (True))) ∧ Post (Value.agg #[vi 2, vi x.at_, vz, vz, vz, vi 0, vb false, vz, tree 38 0 #[], vs x.sheet.id, vs x.sheet.grade, vi x.sheet.thick, vi x.sheet.long, vi x.sheet.width, vs x.sheet.heat, vz, vz, vz, vi 0, vz, vz, vi 0, tree 5 0 #[], vz, vi 0, tree 1 0 #[], vz, vi 0, vi 0, vi 0, vi 0, vi 0, vi 0, tree 1 0 #[], vz, tree 4 0 #[], vz, vi 0, vi 0, vi 0]))))))) := by kernel_rfl
theorem e_rplain3 (x : Event) (H : HT) (Post : PV) : vcP Tryz.prog callRPl 23 [] [.agg (.int .i64 3 :: (eventC x).tail).toArray] H Post = (T8 (40 ≤ 40 ∧ T32 (T16 (T8 (T4 (True ∧ 20 ≤ 40 ∧ True ∧ 40 ≤ 40 ∧ (T32 (T8 (True))) ∧ Post (Value.agg #[vi 3, vi x.at_, vz, vz, vz, vi 0, vb false, vz, tree 38 0 #[], vz, vz, vi 0, vi 0, vi 0, vz, vs x.bar.id, vs x.bar.sect, vs x.bar.grade, vi x.bar.long, vs x.bar.heat, vz, vi 0, tree 5 0 #[], vz, vi 0, tree 1 0 #[], vz, vi 0, vi 0, vi 0, vi 0, vi 0, vi 0, tree 1 0 #[], vz, tree 4 0 #[], vz, vi 0, vi 0, vi 0]))))))) := by kernel_rfl
theorem e_rplain4 (x : Event) (H : HT) (Post : PV) : vcP Tryz.prog callRPl 23 [] [.agg (.int .i64 4 :: (eventC x).tail).toArray] H Post = (T8 (40 ≤ 40 ∧ T8 (T2 (3 ≤ 40 ∧ T16 (T8 (T4 (T2 (5 ≤ 40 ∧ T16 (T4 (True ∧ 40 ≤ 40 ∧ (T32 (T8 (True))) ∧ Post (Value.agg #[vi 4, vi x.at_, vs x.item, vz, vs x.by_, vi 0, vb false, vz, tree 38 0 #[], vz, vz, vi 0, vi 0, vi 0, vz, vz, vz, vz, vi 0, vz, vz, vi 0, tree 5 0 #[], vz, vi 0, tree 1 0 #[], vz, vi 0, vi 0, vi 0, vi 0, vi 0, vi 0, tree 1 0 #[], vz, tree 4 0 #[], vz, vi 0, vi 0, vi 0]))))))))))) := by kernel_rfl
theorem e_rplain5 (x : Event) (H : HT) (Post : PV) : vcP Tryz.prog callRPl 23 [] [.agg (.int .i64 5 :: (eventC x).tail).toArray] H Post = (T8 (40 ≤ 40 ∧ T32 (T16 (T8 (T4 (T2 (True ∧ 23 ≤ 40 ∧ True ∧ 40 ≤ 40 ∧ (T32 (T8 (True))) ∧ Post (Value.agg #[vi 5, vi x.at_, vz, vz, vz, vi 0, vb false, vz, tree 38 0 #[], vz, vz, vi 0, vi 0, vi 0, vz, vz, vz, vz, vi 0, vz, vs x.nest.sheet, vi x.nest.gap, tree 5 x.nest.spots.length (encL x.nest.spots), vz, vi 0, tree 1 0 #[], vz, vi 0, vi 0, vi 0, vi 0, vi 0, vi 0, tree 1 0 #[], vz, tree 4 0 #[], vz, vi 0, vi 0, vi 0])))))))) := by kernel_rfl
theorem e_rplain6 (x : Event) (H : HT) (Post : PV) : vcP Tryz.prog callRPl 23 [] [.agg (.int .i64 6 :: (eventC x).tail).toArray] H Post = (T8 (40 ≤ 40 ∧ T32 (T32 (True ∧ 26 ≤ 40 ∧ True ∧ 40 ≤ 40 ∧ (T32 (T8 (True))) ∧ Post (Value.agg #[vi 6, vi x.at_, vz, vz, vz, vi 0, vb false, vz, tree 38 0 #[], vz, vz, vi 0, vi 0, vi 0, vz, vz, vz, vz, vi 0, vz, vz, vi 0, tree 5 0 #[], vs x.saw.bar, vi x.saw.kerf, tree 1 x.saw.parts.length (encL x.saw.parts), vz, vi 0, vi 0, vi 0, vi 0, vi 0, vi 0, tree 1 0 #[], vz, tree 4 0 #[], vz, vi 0, vi 0, vi 0]))))) := by kernel_rfl
theorem e_rplain7 (x : Event) (H : HT) (Post : PV) : vcP Tryz.prog callRPl 23 [] [.agg (.int .i64 7 :: (eventC x).tail).toArray] H Post = (T8 (40 ≤ 40 ∧ T8 (T4 (3 ≤ 40 ∧ T32 (T16 (40 ≤ 40 ∧ (T32 (T8 (True))) ∧ Post (Value.agg #[vi 7, vi x.at_, vs x.item, vz, vz, vi 0, vb false, vz, tree 38 0 #[], vz, vz, vi 0, vi 0, vi 0, vz, vz, vz, vz, vi 0, vz, vz, vi 0, tree 5 0 #[], vz, vi 0, tree 1 0 #[], vz, vi 0, vi 0, vi 0, vi 0, vi 0, vi 0, tree 1 0 #[], vz, tree 4 0 #[], vz, vi 0, vi 0, vi 0]))))))) := by kernel_rfl
theorem e_rplain8 (x : Event) (H : HT) (Post : PV) : vcP Tryz.prog callRPl 23 [] [.agg (.int .i64 8 :: (eventC x).tail).toArray] H Post = (T8 (40 ≤ 40 ∧ T8 (T4 (T2 (3 ≤ 40 ∧ T32 (T16 (40 ≤ 40 ∧ (T32 (T8 (True))) ∧ Post (Value.agg #[vi 8, vi x.at_, vs x.item, vz, vz, vi 0, vb false, vz, tree 38 0 #[], vz, vz, vi 0, vi 0, vi 0, vz, vz, vz, vz, vi 0, vz, vz, vi 0, tree 5 0 #[], vz, vi 0, tree 1 0 #[], vz, vi 0, vi 0, vi 0, vi 0, vi 0, vi 0, tree 1 0 #[], vz, tree 4 0 #[], vz, vi 0, vi 0, vi 0])))))))) := by kernel_rfl
theorem e_rplain9 (x : Event) (H : HT) (Post : PV) : vcP Tryz.prog callRPl 23 [] [.agg (.int .i64 9 :: (eventC x).tail).toArray] H Post = (T8 (40 ≤ 40 ∧ T16 (T4 (3 ≤ 40 ∧ T8 (T2 (True ∧ 4 ≤ 40 ∧ T16 (5 ≤ 40 ∧ T16 (T4 (True ∧ 40 ≤ 40 ∧ (T32 (T8 (True))) ∧ Post (Value.agg #[vi 9, vi x.at_, vs x.item, vs x.of_, vs x.by_, vi 0, vb false, vz, tree 38 0 #[], vz, vz, vi 0, vi 0, vi 0, vz, vz, vz, vz, vi 0, vz, vz, vi 0, tree 5 0 #[], vz, vi 0, tree 1 0 #[], vz, vi 0, vi 0, vi 0, vi 0, vi 0, vi 0, tree 1 0 #[], vz, tree 4 0 #[], vz, vi 0, vi 0, vi 0])))))))))) := by kernel_rfl
theorem e_rplain10 (x : Event) (H : HT) (Post : PV) : vcP Tryz.prog callRPl 23 [] [.agg (.int .i64 10 :: (eventC x).tail).toArray] H Post = (T8 (40 ≤ 40 ∧ T16 (T8 (3 ≤ 40 ∧ T32 (T2 (True ∧ pIf x.pass (True ∧ 6 ≤ 40 ∧ ((vb x.pass = vb true ∧ True) ∧ True) ∧ True ∧ 7 ≤ 40 ∧ T2 (40 ≤ 40 ∧ (T32 (T8 (True))) ∧ Post (Value.agg #[vi 10, vi x.at_, vs x.item, vz, vz, vi x.n, vb true, vz, tree 38 0 #[], vz, vz, vi 0, vi 0, vi 0, vz, vz, vz, vz, vi 0, vz, vz, vi 0, tree 5 0 #[], vz, vi 0, tree 1 0 #[], vz, vi 0, vi 0, vi 0, vi 0, vi 0, vi 0, tree 1 0 #[], vz, tree 4 0 #[], vz, vi 0, vi 0, vi 0]))) (True ∧ 6 ≤ 40 ∧ ((vb x.pass = vb false ∧ True) ∧ True) ∧ True ∧ 7 ≤ 40 ∧ T2 (40 ≤ 40 ∧ (T32 (T8 (True))) ∧ Post (Value.agg #[vi 10, vi x.at_, vs x.item, vz, vz, vi x.n, vb false, vz, tree 38 0 #[], vz, vz, vi 0, vi 0, vi 0, vz, vz, vz, vz, vi 0, vz, vz, vi 0, tree 5 0 #[], vz, vi 0, tree 1 0 #[], vz, vi 0, vi 0, vi 0, vi 0, vi 0, vi 0, tree 1 0 #[], vz, tree 4 0 #[], vz, vi 0, vi 0, vi 0]))))))))) := by kernel_rfl
theorem e_rplain11 (x : Event) (H : HT) (Post : PV) : vcP Tryz.prog callRPl 23 [] [.agg (.int .i64 11 :: (eventC x).tail).toArray] H Post = (T8 (40 ≤ 40 ∧ T16 (T4 (T2 (3 ≤ 40 ∧ T8 (T4 (True ∧ 4 ≤ 40 ∧ T16 (T2 (5 ≤ 40 ∧ T16 (T4 (True ∧ 40 ≤ 40 ∧ (T32 (T8 (True))) ∧ Post (Value.agg #[vi 11, vi x.at_, vs x.item, vs x.of_, vs x.by_, vi 0, vb false, vz, tree 38 0 #[], vz, vz, vi 0, vi 0, vi 0, vz, vz, vz, vz, vi 0, vz, vz, vi 0, tree 5 0 #[], vz, vi 0, tree 1 0 #[], vz, vi 0, vi 0, vi 0, vi 0, vi 0, vi 0, tree 1 0 #[], vz, tree 4 0 #[], vz, vi 0, vi 0, vi 0])))))))))))) := by kernel_rfl
theorem e_rplain12 (x : Event) (H : HT) (Post : PV) : vcP Tryz.prog callRPl 23 [] [.agg (.int .i64 12 :: (eventC x).tail).toArray] H Post = (T8 (40 ≤ 40 ∧ T16 (3 ≤ 40 ∧ T32 (T16 (40 ≤ 40 ∧ (T32 (T8 (True))) ∧ Post (Value.agg #[vi 12, vi x.at_, vs x.item, vz, vz, vi 0, vb false, vz, tree 38 0 #[], vz, vz, vi 0, vi 0, vi 0, vz, vz, vz, vz, vi 0, vz, vz, vi 0, tree 5 0 #[], vz, vi 0, tree 1 0 #[], vz, vi 0, vi 0, vi 0, vi 0, vi 0, vi 0, tree 1 0 #[], vz, tree 4 0 #[], vz, vi 0, vi 0, vi 0])))))) := by kernel_rfl
theorem e_rplain13 (x : Event) (H : HT) (Post : PV) : vcP Tryz.prog callRPl 23 [] [.agg (.int .i64 13 :: (eventC x).tail).toArray] H Post = (T8 (40 ≤ 40 ∧ T32 (T32 (T2 (True ∧ 34 ≤ 40 ∧ T2 (28 ≤ 40 ∧ T2 (34 ≤ 40 ∧ True ∧ 40 ≤ 40 ∧ (T32 (T8 (True))) ∧ Post (Value.agg #[vi 13, vi x.at_, vz, vz, vz, vi 0, vb false, vz, tree 38 0 #[], vz, vz, vi 0, vi 0, vi 0, vz, vz, vz, vz, vi 0, vz, vz, vi 0, tree 5 0 #[], vz, vi 0, tree 1 0 #[], vs x.weig.block, vi 0, vi x.weig.mass, vi x.weig.centre.x, vi x.weig.centre.y, vi x.weig.centre.z, vi x.weig.sigma, tree 1 0 #[], vz, tree 4 0 #[], vz, vi 0, vi 0, vi 0])))))))) := by kernel_rfl
theorem e_rplain14 (x : Event) (H : HT) (Post : PV) : vcP Tryz.prog callRPl 23 [] [.agg (.int .i64 14 :: (eventC x).tail).toArray] H Post = (T8 (40 ≤ 40 ∧ T32 (T32 (T4 (True ∧ 36 ≤ 40 ∧ True ∧ 40 ≤ 40 ∧ (T32 (T8 (True))) ∧ Post (Value.agg #[vi 14, vi x.at_, vz, vz, vz, vi 0, vb false, vz, tree 38 0 #[], vz, vz, vi 0, vi 0, vi 0, vz, vz, vz, vz, vi 0, vz, vz, vi 0, tree 5 0 #[], vz, vi 0, tree 1 0 #[], vz, vi 0, vi 0, vi 0, vi 0, vi 0, vi 0, tree 1 0 #[], vs x.lift.block, tree 4 x.lift.hooks.length (encL x.lift.hooks), vz, vi 0, vi 0, vi 0])))))) := by kernel_rfl
theorem e_rplain15 (x : Event) (H : HT) (Post : PV) : vcP Tryz.prog callRPl 23 [] [.agg (.int .i64 15 :: (eventC x).tail).toArray] H Post = (T8 (40 ≤ 40 ∧ T32 (T32 (T4 (T2 (True ∧ 40 ≤ 40 ∧ True ∧ 40 ≤ 40 ∧ (T32 (T8 (True))) ∧ Post (Value.agg #[vi 15, vi x.at_, vz, vz, vz, vi 0, vb false, vz, tree 38 0 #[], vz, vz, vi 0, vi 0, vi 0, vz, vz, vz, vz, vi 0, vz, vz, vi 0, tree 5 0 #[], vz, vi 0, tree 1 0 #[], vz, vi 0, vi 0, vi 0, vi 0, vi 0, vi 0, tree 1 0 #[], vz, tree 4 0 #[], vs x.permit.id, vi x.permit.kind, vi x.permit.time.a, vi x.permit.time.b]))))))) := by kernel_rfl
theorem e_rplain16 (x : Event) (H : HT) (Post : PV) : vcP Tryz.prog callRPl 23 [] [.agg (.int .i64 16 :: (eventC x).tail).toArray] H Post = (T8 (40 ≤ 40 ∧ T16 (T2 (3 ≤ 40 ∧ T32 (T16 (40 ≤ 40 ∧ (T32 (T8 (True))) ∧ Post (Value.agg #[vi 16, vi x.at_, vs x.item, vz, vz, vi 0, vb false, vz, tree 38 0 #[], vz, vz, vi 0, vi 0, vi 0, vz, vz, vz, vz, vi 0, vz, vz, vi 0, tree 5 0 #[], vz, vi 0, tree 1 0 #[], vz, vi 0, vi 0, vi 0, vi 0, vi 0, vi 0, tree 1 0 #[], vz, tree 4 0 #[], vz, vi 0, vi 0, vi 0]))))))) := by kernel_rfl
theorem e_rplain17 (x : Event) (H : HT) (Post : PV) : vcP Tryz.prog callRPl 23 [] [.agg (.int .i64 17 :: (eventC x).tail).toArray] H Post = (T8 (40 ≤ 40 ∧ T32 (T32 (T4 (True ∧ 40 ≤ 40 ∧ (T32 (T8 (True))) ∧ Post (Value.agg #[vi 17, vi x.at_, vz, vz, vz, vi 0, vb false, vz, tree 38 0 #[], vz, vz, vi 0, vi 0, vi 0, vz, vz, vz, vz, vi 0, vz, vz, vi 0, tree 5 0 #[], vz, vi 0, tree 1 0 #[], vz, vi 0, vi 0, vi 0, vi 0, vi 0, vi 0, tree 1 0 #[], vz, tree 4 0 #[], vz, vi 0, vi 0, vi 0])))))) := by kernel_rfl
theorem e_rplain18 (x : Event) (H : HT) (Post : PV) : vcP Tryz.prog callRPl 23 [] [.agg (.int .i64 18 :: (eventC x).tail).toArray] H Post = (T8 (40 ≤ 40 ∧ T32 (T32 (T4 (True ∧ 40 ≤ 40 ∧ (T32 (T8 (True))) ∧ Post (Value.agg #[vi 18, vi x.at_, vz, vz, vz, vi 0, vb false, vz, tree 38 0 #[], vz, vz, vi 0, vi 0, vi 0, vz, vz, vz, vz, vi 0, vz, vz, vi 0, tree 5 0 #[], vz, vi 0, tree 1 0 #[], vz, vi 0, vi 0, vi 0, vi 0, vi 0, vi 0, tree 1 0 #[], vz, tree 4 0 #[], vz, vi 0, vi 0, vi 0])))))) := by kernel_rfl
def c_rplain (args : List Value) (Post : Value → Prop) : Prop := ∃ x : Event, args = [eventV x] ∧ 1 ≤ x.kind ∧ x.kind ≤ 18 ∧ Post (eventV (plainK x.kind x))
theorem ok_rplain : EntOk Tryz.prog ⟨23, c_rplain⟩ := by
 rintro args Post ⟨x, rfl, h1, h2, h⟩
 have hk := kinds h1 h2
 obtain ⟨k, a, i, o, b, n, p, ord, sh, bar, nest, saw, weig, lift, per⟩ := x
 simp only at hk
 rcases hk with rfl | rfl | rfl | rfl | rfl | rfl | rfl | rfl | rfl | rfl | rfl | rfl | rfl | rfl | rfl | rfl | rfl | rfl
 ·refine pure_P (vc := callRPl) callRPl_ok mixed (by kernel_rfl) (by kernel_rfl) _ (e_rplain1 ⟨1, a, i, o, b, n, p, ord, sh, bar, nest, saw, weig, lift, per⟩ _ _) ?_
  repeat' (first | exact rfl | refine And.intro ?_ ?_ | trivial | decide | exact of_v h (by kernel_rfl))
 ·refine pure_P (vc := callRPl) callRPl_ok mixed (by kernel_rfl) (by kernel_rfl) _ (e_rplain2 ⟨2, a, i, o, b, n, p, ord, sh, bar, nest, saw, weig, lift, per⟩ _ _) ?_
  repeat' (first | exact rfl | refine And.intro ?_ ?_ | trivial | decide | exact of_v h (by kernel_rfl))
 ·refine pure_P (vc := callRPl) callRPl_ok mixed (by kernel_rfl) (by kernel_rfl) _ (e_rplain3 ⟨3, a, i, o, b, n, p, ord, sh, bar, nest, saw, weig, lift, per⟩ _ _) ?_
  repeat' (first | exact rfl | refine And.intro ?_ ?_ | trivial | decide | exact of_v h (by kernel_rfl))
 ·refine pure_P (vc := callRPl) callRPl_ok mixed (by kernel_rfl) (by kernel_rfl) _ (e_rplain4 ⟨4, a, i, o, b, n, p, ord, sh, bar, nest, saw, weig, lift, per⟩ _ _) ?_
  repeat' (first | exact rfl | refine And.intro ?_ ?_ | trivial | decide | exact of_v h (by kernel_rfl))
 ·refine pure_P (vc := callRPl) callRPl_ok mixed (by kernel_rfl) (by kernel_rfl) _ (e_rplain5 ⟨5, a, i, o, b, n, p, ord, sh, bar, nest, saw, weig, lift, per⟩ _ _) ?_
  repeat' (first | exact rfl | refine And.intro ?_ ?_ | trivial | decide | exact of_v h (by kernel_rfl))
 ·refine pure_P (vc := callRPl) callRPl_ok mixed (by kernel_rfl) (by kernel_rfl) _ (e_rplain6 ⟨6, a, i, o, b, n, p, ord, sh, bar, nest, saw, weig, lift, per⟩ _ _) ?_
  repeat' (first | exact rfl | refine And.intro ?_ ?_ | trivial | decide | exact of_v h (by kernel_rfl))
 ·refine pure_P (vc := callRPl) callRPl_ok mixed (by kernel_rfl) (by kernel_rfl) _ (e_rplain7 ⟨7, a, i, o, b, n, p, ord, sh, bar, nest, saw, weig, lift, per⟩ _ _) ?_
  repeat' (first | exact rfl | refine And.intro ?_ ?_ | trivial | decide | exact of_v h (by kernel_rfl))
 ·refine pure_P (vc := callRPl) callRPl_ok mixed (by kernel_rfl) (by kernel_rfl) _ (e_rplain8 ⟨8, a, i, o, b, n, p, ord, sh, bar, nest, saw, weig, lift, per⟩ _ _) ?_
  repeat' (first | exact rfl | refine And.intro ?_ ?_ | trivial | decide | exact of_v h (by kernel_rfl))
 ·refine pure_P (vc := callRPl) callRPl_ok mixed (by kernel_rfl) (by kernel_rfl) _ (e_rplain9 ⟨9, a, i, o, b, n, p, ord, sh, bar, nest, saw, weig, lift, per⟩ _ _) ?_
  repeat' (first | exact rfl | refine And.intro ?_ ?_ | trivial | decide | exact of_v h (by kernel_rfl))
 ·cases p
  ·refine pure_P (vc := callRPl) callRPl_ok mixed (by kernel_rfl) (by kernel_rfl) _ (e_rplain10 ⟨10, a, i, o, b, n, false, ord, sh, bar, nest, saw, weig, lift, per⟩ _ _) ?_
   repeat' (first | exact rfl | refine pIf_intro (fun hh => (by cases hh)) (fun _ => ?_) | refine And.intro ?_ ?_ | trivial | decide | exact of_v h (by kernel_rfl))
  ·refine pure_P (vc := callRPl) callRPl_ok mixed (by kernel_rfl) (by kernel_rfl) _ (e_rplain10 ⟨10, a, i, o, b, n, true, ord, sh, bar, nest, saw, weig, lift, per⟩ _ _) ?_
   repeat' (first | exact rfl | refine pIf_intro (fun _ => ?_) (fun hh => (by cases hh)) | refine And.intro ?_ ?_ | trivial | decide | exact of_v h (by kernel_rfl))
 ·refine pure_P (vc := callRPl) callRPl_ok mixed (by kernel_rfl) (by kernel_rfl) _ (e_rplain11 ⟨11, a, i, o, b, n, p, ord, sh, bar, nest, saw, weig, lift, per⟩ _ _) ?_
  repeat' (first | exact rfl | refine And.intro ?_ ?_ | trivial | decide | exact of_v h (by kernel_rfl))
 ·refine pure_P (vc := callRPl) callRPl_ok mixed (by kernel_rfl) (by kernel_rfl) _ (e_rplain12 ⟨12, a, i, o, b, n, p, ord, sh, bar, nest, saw, weig, lift, per⟩ _ _) ?_
  repeat' (first | exact rfl | refine And.intro ?_ ?_ | trivial | decide | exact of_v h (by kernel_rfl))
 ·refine pure_P (vc := callRPl) callRPl_ok mixed (by kernel_rfl) (by kernel_rfl) _ (e_rplain13 ⟨13, a, i, o, b, n, p, ord, sh, bar, nest, saw, weig, lift, per⟩ _ _) ?_
  repeat' (first | exact rfl | refine And.intro ?_ ?_ | trivial | decide | exact of_v h (by kernel_rfl))
 ·refine pure_P (vc := callRPl) callRPl_ok mixed (by kernel_rfl) (by kernel_rfl) _ (e_rplain14 ⟨14, a, i, o, b, n, p, ord, sh, bar, nest, saw, weig, lift, per⟩ _ _) ?_
  repeat' (first | exact rfl | refine And.intro ?_ ?_ | trivial | decide | exact of_v h (by kernel_rfl))
 ·refine pure_P (vc := callRPl) callRPl_ok mixed (by kernel_rfl) (by kernel_rfl) _ (e_rplain15 ⟨15, a, i, o, b, n, p, ord, sh, bar, nest, saw, weig, lift, per⟩ _ _) ?_
  repeat' (first | exact rfl | refine And.intro ?_ ?_ | trivial | decide | exact of_v h (by kernel_rfl))
 ·refine pure_P (vc := callRPl) callRPl_ok mixed (by kernel_rfl) (by kernel_rfl) _ (e_rplain16 ⟨16, a, i, o, b, n, p, ord, sh, bar, nest, saw, weig, lift, per⟩ _ _) ?_
  repeat' (first | exact rfl | refine And.intro ?_ ?_ | trivial | decide | exact of_v h (by kernel_rfl))
 ·refine pure_P (vc := callRPl) callRPl_ok mixed (by kernel_rfl) (by kernel_rfl) _ (e_rplain17 ⟨17, a, i, o, b, n, p, ord, sh, bar, nest, saw, weig, lift, per⟩ _ _) ?_
  repeat' (first | exact rfl | refine And.intro ?_ ?_ | trivial | decide | exact of_v h (by kernel_rfl))
 ·refine pure_P (vc := callRPl) callRPl_ok mixed (by kernel_rfl) (by kernel_rfl) _ (e_rplain18 ⟨18, a, i, o, b, n, p, ord, sh, bar, nest, saw, weig, lift, per⟩ _ _) ?_
  repeat' (first | exact rfl | refine And.intro ?_ ?_ | trivial | decide | exact of_v h (by kernel_rfl))
def stL (x : Event) (s : Nat) (L : List Value) (k : Nat) (i : Int) : AS := stV [(1, some (.pointer (some ⟨0, 0, none⟩))), (3, some (.slice (some ⟨1, 0, none⟩) k 1)), (s, some (.int .i64 i))] [(0, some (.cells (eventC x) true)), (1, some (.cells L true))] 2
theorem e_strs (x : Event) (H : HT) (Post : PV) : vcP Tryz.prog noCall 29 [(3, [1, 3, 4]), (7, [1, 3, 5]), (11, [1, 3, 6])] [eventV x] H Post = (let q1 := [vs x.item, vs x.of_, vs x.by_, vs x.sheet.id, vs x.sheet.grade, vs x.sheet.heat, vs x.bar.id, vs x.bar.sect, vs x.bar.grade, vs x.bar.heat, vs x.nest.sheet, vs x.saw.bar, vs x.weig.block, vs x.lift.block, vs x.permit.id]; T32 (T16 ((True ∧ NLs q1 ∧ True) ∧ H (lpC Tryz.prog 29 3) (lpK Tryz.prog 29 3) (stV [(1, some (pt 0)), (3, some (Value.slice (some (Addr.mk 1 0 none)) 15 1)), (4, some (vi 0))] [(0, some (AObj.cells (evK x.kind x) true)), (1, some (AObj.cells q1 true))] 2)))) := by kernel_rfl
theorem l_strs1 (x : Event) (L : List Value) (k : Nat) (i : Int) (H : HT) (Post : PV) : vcLP Tryz.prog noCall 29 [eventV x] [(3, [1, 3, 4]), (7, [1, 3, 5]), (11, [1, 3, 6])] 3 (stL x 4 L k i) H Post = (let q1 := toS (cellAt (encL x.nest.spots) (Int.toNat i) 0); T4 (T2 (pIf (decide (i < (↑x.nest.spots.length : Int))) (T4 (True ∧ (0 ≤ i ∧ i < (↑x.nest.spots.length : Int)) ∧ True ∧ cellAt (encL x.nest.spots) (Int.toNat i) 0 = vs q1 ∧ True ∧ 1 ≤ 1 ∧ k + 1 ≤ 33554432 ∧ true = true ∧ 1 = 1 ∧ 0 + k * 1 = List.length L ∧ T4 (True ∧ (True ∧ NLs (L ++ [vs q1]) ∧ True) ∧ H (lpC Tryz.prog 29 3) (lpK Tryz.prog 29 3) (stV [(1, some (pt 0)), (3, some (Value.slice (some (Addr.mk 1 0 none)) (k + 1) 1)), (4, some (vi (IntKind.wrap IntKind.i64 (i + 1))))] [(0, some (AObj.cells (evK x.kind x) true)), (1, some (AObj.cells (L ++ [vs q1]) true))] 2)))) (T2 ((True ∧ NLs L ∧ True) ∧ H (lpC Tryz.prog 29 7) (lpK Tryz.prog 29 7) (stV [(1, some (pt 0)), (3, some (Value.slice (some (Addr.mk 1 0 none)) k 1)), (5, some (vi 0))] [(0, some (AObj.cells (evK x.kind x) true)), (1, some (AObj.cells L true))] 2)))))) := by kernel_rfl
theorem l_strs2 (x : Event) (L : List Value) (k : Nat) (i : Int) (H : HT) (Post : PV) : vcLP Tryz.prog noCall 29 [eventV x] [(3, [1, 3, 4]), (7, [1, 3, 5]), (11, [1, 3, 6])] 7 (stL x 5 L k i) H Post = (let q1 := toS (cellAt (encL x.saw.parts) (Int.toNat i) 0); T4 (T2 (pIf (decide (i < (↑x.saw.parts.length : Int))) (T4 (True ∧ (0 ≤ i ∧ i < (↑x.saw.parts.length : Int)) ∧ cellAt (encL x.saw.parts) (Int.toNat i) 0 = vs q1 ∧ True ∧ 1 ≤ 1 ∧ k + 1 ≤ 33554432 ∧ true = true ∧ 1 = 1 ∧ 0 + k * 1 = List.length L ∧ T4 (True ∧ (True ∧ NLs (L ++ [vs q1]) ∧ True) ∧ H (lpC Tryz.prog 29 7) (lpK Tryz.prog 29 7) (stV [(1, some (pt 0)), (3, some (Value.slice (some (Addr.mk 1 0 none)) (k + 1) 1)), (5, some (vi (IntKind.wrap IntKind.i64 (i + 1))))] [(0, some (AObj.cells (evK x.kind x) true)), (1, some (AObj.cells (L ++ [vs q1]) true))] 2)))) (T2 ((True ∧ NLs L ∧ True) ∧ H (lpC Tryz.prog 29 11) (lpK Tryz.prog 29 11) (stV [(1, some (pt 0)), (3, some (Value.slice (some (Addr.mk 1 0 none)) k 1)), (6, some (vi 0))] [(0, some (AObj.cells (evK x.kind x) true)), (1, some (AObj.cells L true))] 2)))))) := by kernel_rfl
theorem l_strs3 (x : Event) (L : List Value) (k : Nat) (i : Int) (H : HT) (Post : PV) : vcLP Tryz.prog noCall 29 [eventV x] [(3, [1, 3, 4]), (7, [1, 3, 5]), (11, [1, 3, 6])] 11 (stL x 6 L k i) H Post = (let q1 := toS (cellAt (encL x.lift.hooks) (Int.toNat i) 0); T4 (T2 (pIf (decide (i < (↑x.lift.hooks.length : Int))) (T4 (True ∧ (0 ≤ i ∧ i < (↑x.lift.hooks.length : Int)) ∧ True ∧ cellAt (encL x.lift.hooks) (Int.toNat i) 0 = vs q1 ∧ True ∧ 1 ≤ 1 ∧ k + 1 ≤ 33554432 ∧ true = true ∧ 1 = 1 ∧ 0 + k * 1 = List.length L ∧ T4 (True ∧ (True ∧ NLs (L ++ [vs q1]) ∧ True) ∧ H (lpC Tryz.prog 29 11) (lpK Tryz.prog 29 11) (stV [(1, some (pt 0)), (3, some (Value.slice (some (Addr.mk 1 0 none)) (k + 1) 1)), (6, some (vi (IntKind.wrap IntKind.i64 (i + 1))))] [(0, some (AObj.cells (evK x.kind x) true)), (1, some (AObj.cells (L ++ [vs q1]) true))] 2)))) (T2 ((0 + k * 1 ≤ List.length L ∧ NLs L) ∧ Post (tree 1 k (chunks 1 k (List.drop 0 L)))))))) := by kernel_rfl
theorem e_nums (x : Event) (H : HT) (Post : PV) : vcP Tryz.prog noCall 30 [(3, [1, 3, 4]), (7, [1, 3, 5])] [eventV x] H Post = (let q1 := [vi x.n, vi x.sheet.thick, vi x.sheet.long, vi x.sheet.width, vi x.bar.long, vi x.nest.gap, vi x.saw.kerf, vi x.weig.mass, vi x.weig.centre.x, vi x.weig.centre.y, vi x.weig.centre.z, vi x.weig.sigma, vi x.permit.kind, vi x.permit.time.a, vi x.permit.time.b]; T32 (T16 (T4 (T2 (True ∧ (True ∧ NLs q1 ∧ True) ∧ H (lpC Tryz.prog 30 3) (lpK Tryz.prog 30 3) (stV [(1, some (pt 0)), (3, some (Value.slice (some (Addr.mk 1 0 none)) 15 1)), (4, some (vi 0))] [(0, some (AObj.cells (evK x.kind x) true)), (1, some (AObj.cells q1 true))] 2)))))) := by kernel_rfl
theorem l_nums1 (x : Event) (L : List Value) (k : Nat) (i : Int) (H : HT) (Post : PV) : vcLP Tryz.prog noCall 30 [eventV x] [(3, [1, 3, 4]), (7, [1, 3, 5])] 3 (stL x 4 L k i) H Post = (let q2 := (0 ≤ i ∧ i < (↑x.nest.spots.length : Int)); let q1 := L ++ [vi (toI (cellAt (encL x.nest.spots) (Int.toNat i) 1)), vi (toI (cellAt (encL x.nest.spots) (Int.toNat i) 2)), vi (toI (cellAt (encL x.nest.spots) (Int.toNat i) 3))]; T4 (T2 (pIf (decide (i < (↑x.nest.spots.length : Int))) (T4 (True ∧ q2 ∧ T2 (cellAt (encL x.nest.spots) (Int.toNat i) 1 = vi (toI (cellAt (encL x.nest.spots) (Int.toNat i) 1)) ∧ T4 (q2 ∧ T2 (cellAt (encL x.nest.spots) (Int.toNat i) 2 = vi (toI (cellAt (encL x.nest.spots) (Int.toNat i) 2)) ∧ T4 (q2 ∧ True ∧ cellAt (encL x.nest.spots) (Int.toNat i) 3 = vi (toI (cellAt (encL x.nest.spots) (Int.toNat i) 3)) ∧ True ∧ 3 ≤ 3 ∧ k + 3 ≤ 33554432 ∧ true = true ∧ 3 = 3 ∧ 0 + k * 1 = List.length L ∧ T4 (T2 ((True ∧ NLs q1 ∧ True) ∧ H (lpC Tryz.prog 30 3) (lpK Tryz.prog 30 3) (stV [(1, some (pt 0)), (3, some (Value.slice (some (Addr.mk 1 0 none)) (k + 3) 1)), (4, some (vi (IntKind.wrap IntKind.i64 (i + 1))))] [(0, some (AObj.cells (evK x.kind x) true)), (1, some (AObj.cells q1 true))] 2))))))))) (T2 ((True ∧ NLs L ∧ True) ∧ H (lpC Tryz.prog 30 7) (lpK Tryz.prog 30 7) (stV [(1, some (pt 0)), (3, some (Value.slice (some (Addr.mk 1 0 none)) k 1)), (5, some (vi 0))] [(0, some (AObj.cells (evK x.kind x) true)), (1, some (AObj.cells L true))] 2)))))) := by kernel_rfl
theorem l_nums2 (x : Event) (L : List Value) (k : Nat) (i : Int) (H : HT) (Post : PV) : vcLP Tryz.prog noCall 30 [eventV x] [(3, [1, 3, 4]), (7, [1, 3, 5])] 7 (stL x 5 L k i) H Post = (let q2 := (0 ≤ i ∧ i < (↑x.lift.hooks.length : Int)); let q1 := L ++ [vi (toI (cellAt (encL x.lift.hooks) (Int.toNat i) 1)), vi (toI (cellAt (encL x.lift.hooks) (Int.toNat i) 2)), vi (toI (cellAt (encL x.lift.hooks) (Int.toNat i) 3))]; T4 (T2 (pIf (decide (i < (↑x.lift.hooks.length : Int))) (T4 (True ∧ q2 ∧ T2 (cellAt (encL x.lift.hooks) (Int.toNat i) 1 = vi (toI (cellAt (encL x.lift.hooks) (Int.toNat i) 1)) ∧ T4 (q2 ∧ T2 (cellAt (encL x.lift.hooks) (Int.toNat i) 2 = vi (toI (cellAt (encL x.lift.hooks) (Int.toNat i) 2)) ∧ T4 (q2 ∧ True ∧ cellAt (encL x.lift.hooks) (Int.toNat i) 3 = vi (toI (cellAt (encL x.lift.hooks) (Int.toNat i) 3)) ∧ True ∧ 3 ≤ 3 ∧ k + 3 ≤ 33554432 ∧ true = true ∧ 3 = 3 ∧ 0 + k * 1 = List.length L ∧ T4 (T2 ((True ∧ NLs q1 ∧ True) ∧ H (lpC Tryz.prog 30 7) (lpK Tryz.prog 30 7) (stV [(1, some (pt 0)), (3, some (Value.slice (some (Addr.mk 1 0 none)) (k + 3) 1)), (5, some (vi (IntKind.wrap IntKind.i64 (i + 1))))] [(0, some (AObj.cells (evK x.kind x) true)), (1, some (AObj.cells q1 true))] 2))))))))) (T2 ((0 + k * 1 ≤ List.length L ∧ NLs L) ∧ Post (tree 1 k (chunks 1 k (List.drop 0 L)))))))) := by kernel_rfl
def strL0 (x : Event) : List ByteArray := [x.item, x.of_, x.by_, x.sheet.id, x.sheet.grade, x.sheet.heat, x.bar.id, x.bar.sect, x.bar.grade, x.bar.heat, x.nest.sheet, x.saw.bar, x.weig.block, x.lift.block, x.permit.id]
def strL (x : Event) : List ByteArray := strL0 x ++ x.nest.spots.map (·.part) ++ x.saw.parts ++ x.lift.hooks.map (·.crane)
def numL0 (x : Event) : List Int := [x.n, x.sheet.thick, x.sheet.long, x.sheet.width, x.bar.long, x.nest.gap, x.saw.kerf, x.weig.mass, x.weig.centre.x, x.weig.centre.y, x.weig.centre.z, x.weig.sigma, x.permit.kind, x.permit.time.a, x.permit.time.b]
def numL (x : Event) : List Int := numL0 x ++ x.nest.spots.flatMap (fun s => [s.at_.x, s.at_.y, s.turn]) ++ x.lift.hooks.flatMap (fun h => [h.at_.x, h.at_.y, h.radius])
theorem NLs_strs (l : List ByteArray) : NLs (l.map Value.string) := fun v hv => by
 obtain ⟨s, _, rfl⟩ := List.mem_map.1 hv
 rfl
theorem NLs_ints (l : List Int) : NLs (l.map (Value.int .i64)) := fun v hv => by
 obtain ⟨s, _, rfl⟩ := List.mem_map.1 hv
 rfl
structure Few1k (x : Event) : Prop where
 spots : x.nest.spots.length ≤ 1000
 saw : x.saw.parts.length ≤ 1000
 hooks : x.lift.hooks.length ≤ 1000
def c_estrs (args : List Value) (Post : Value → Prop) : Prop := ∃ x : Event, args = [eventV x] ∧ Few1k x ∧ Post (tree 1 (strL x).length (encL (strL x)))
def c_enums (args : List Value) (Post : Value → Prop) : Prop := ∃ x : Event, args = [eventV x] ∧ Few1k x ∧ Post (tree 1 (numL x).length (encL (numL x)))
theorem take_map {α β : Type} {l : List α} {f : α → β} {k : Nat} (h : k < l.length) : (l.take (k + 1)).map f = (l.take k).map f ++ [f l[k]] := by
 rw [List.take_succ_eq_append_getElem h, List.map_append]; rfl
theorem take_flat {α β : Type} {l : List α} {f : α → List β} {k : Nat} (h : k < l.length) : (l.take (k + 1)).flatMap f = (l.take k).flatMap f ++ f l[k] := by
 rw [List.take_succ_eq_append_getElem h, List.flatMap_append]; simp
theorem ok_estrs : EntOk Tryz.prog ⟨29, c_estrs⟩ := by
 rintro args Post ⟨x, rfl, hf, h⟩
 have f1 := hf.spots
 have f2 := hf.saw
 have f3 := hf.hooks
 have r3 := down (n := x.lift.hooks.length) (p := fun k => OkP 29 [eventV x] 11 Post (stL x 6 ((strL0 x ++ x.nest.spots.map (·.part) ++ x.saw.parts ++ (x.lift.hooks.take k).map (·.crane)).map Value.string) (strL0 x ++ x.nest.spots.map (·.part) ++ x.saw.parts ++ (x.lift.hooks.take k).map (·.crane)).length k)) ?_ ?_
 have r2 := down (n := x.saw.parts.length) (p := fun k => OkP 29 [eventV x] 7 Post (stL x 5 ((strL0 x ++ x.nest.spots.map (·.part) ++ x.saw.parts.take k).map Value.string) (strL0 x ++ x.nest.spots.map (·.part) ++ x.saw.parts.take k).length k)) ?_ ?_
 have r1 := down (n := x.nest.spots.length) (p := fun k => OkP 29 [eventV x] 3 Post (stL x 4 ((strL0 x ++ (x.nest.spots.take k).map (·.part)).map Value.string) (strL0 x ++ (x.nest.spots.take k).map (·.part)).length k)) ?_ ?_
 ·refine pure_P (vc := noCall) noCall_ok mixed (by kernel_rfl) (by kernel_rfl) _ (e_strs x _ _) ?_
  simp only [true_and]
  exact ⟨⟨NLs_strs (strL0 x), trivial⟩, r1⟩
 ·refine ok_P (vc := noCall) noCall_ok mixed _ (l_strs1 x _ _ _ _ _) ?_
  simp only [true_and]
  refine pIfD (fun hh => absurd hh (by omega)) (fun _ => ⟨⟨NLs_strs _, trivial⟩, ?_⟩)
  rw [List.take_of_length_le (Nat.le_refl _)]
  simp only [List.take_zero, List.append_nil] at r2
  exact r2
 ·intro k hk ih
  refine ok_P (vc := noCall) noCall_ok mixed _ (l_strs1 x _ _ _ _ _) ?_
  have ek : ((k : Nat) : Int).toNat = k := by omega
  simp only [true_and, ek, cell_spot hk, spotC, List.getElem?_cons_zero, Option.getD_some, toS, wrapSucc (show k < 2 ^ 62 by omega)]
  refine pIfD (fun _ => ⟨⟨by omega, by omega⟩, by omega, by simp [strL0]; omega, by simp, ⟨?_, trivial⟩, ?_⟩) (fun hh => absurd hh (by omega))
  ·have := NLs_strs (strL0 x ++ (x.nest.spots.take k).map (·.part) ++ [x.nest.spots[k].part])
   rwa [List.map_append] at this
  ·rw [take_map hk, ← List.append_assoc, List.map_append, List.length_append] at ih
   exact ih
 ·refine ok_P (vc := noCall) noCall_ok mixed _ (l_strs2 x _ _ _ _ _) ?_
  simp only [true_and]
  refine pIfD (fun hh => absurd hh (by omega)) (fun _ => ⟨⟨NLs_strs _, trivial⟩, ?_⟩)
  rw [List.take_of_length_le (Nat.le_refl _)]
  simp only [List.take_zero, List.map_nil, List.append_nil] at r3
  exact r3
 ·intro k hk ih
  refine ok_P (vc := noCall) noCall_ok mixed _ (l_strs2 x _ _ _ _ _) ?_
  have ek : ((k : Nat) : Int).toNat = k := by omega
  simp only [true_and, ek, cell_str hk, toS, wrapSucc (show k < 2 ^ 62 by omega)]
  refine pIfD (fun _ => ⟨⟨by omega, by omega⟩, by omega, by simp [strL0]; omega, by simp, ⟨?_, trivial⟩, ?_⟩) (fun hh => absurd hh (by omega))
  ·have := NLs_strs (strL0 x ++ x.nest.spots.map (·.part) ++ x.saw.parts.take k ++ [x.saw.parts[k]])
   rwa [List.map_append] at this
  ·rw [List.take_succ_eq_append_getElem hk, ← List.append_assoc, List.map_append, List.length_append] at ih
   exact ih
 ·refine ok_P (vc := noCall) noCall_ok mixed _ (l_strs3 x _ _ _ _ _) ?_
  simp only [true_and]
  refine pIfD (fun hh => absurd hh (by omega)) (fun _ => ?_)
  rw [List.take_of_length_le (Nat.le_refl _)]
  refine ⟨⟨by simp, NLs_strs _⟩, ?_⟩
  refine of_v h ?_
  have e : chunks 1 (strL x).length (List.drop 0 ((strL x).map Value.string)) = encL (strL x) := by
   show (((strL x).map Value.string).take _).toArray = _
   rw [List.take_of_length_le (by simp)]
   rfl
  exact (congrArg (tree 1 (strL x).length) e).symm
 ·intro k hk ih
  refine ok_P (vc := noCall) noCall_ok mixed _ (l_strs3 x _ _ _ _ _) ?_
  have ek : ((k : Nat) : Int).toNat = k := by omega
  simp only [true_and, ek, cell_hook hk, hook4C, List.getElem?_cons_zero, Option.getD_some, toS, wrapSucc (show k < 2 ^ 62 by omega)]
  refine pIfD (fun _ => ⟨⟨by omega, by omega⟩, by omega, by simp [strL0]; omega, by simp, ⟨?_, trivial⟩, ?_⟩) (fun hh => absurd hh (by omega))
  ·have := NLs_strs (strL0 x ++ x.nest.spots.map (·.part) ++ x.saw.parts ++ (x.lift.hooks.take k).map (·.crane) ++ [x.lift.hooks[k].crane])
   rwa [List.map_append] at this
  ·rw [take_map hk, ← List.append_assoc, List.map_append, List.length_append] at ih
   exact ih
theorem ok_enums : EntOk Tryz.prog ⟨30, c_enums⟩ := by
 rintro args Post ⟨x, rfl, hf, h⟩
 have f1 := hf.spots
 have f3 := hf.hooks
 have l1 : ∀ k, (((x.nest.spots.take k).flatMap fun s => [s.at_.x, s.at_.y, s.turn])).length ≤ 3000 := fun k => by
  rw [List.length_flatMap]
  have : ∀ l : List Spot, (l.map fun s => [s.at_.x, s.at_.y, s.turn].length).sum = 3 * l.length := fun l => by
   induction l with
   | nil => rfl
   | cons a l ih => rw [List.map_cons, List.sum_cons, ih]; simp; omega
  rw [this, List.length_take]
  omega
 have l3 : ∀ k, (((x.lift.hooks.take k).flatMap fun h => [h.at_.x, h.at_.y, h.radius])).length ≤ 3000 := fun k => by
  rw [List.length_flatMap]
  have : ∀ l : List Hook4, (l.map fun h => [h.at_.x, h.at_.y, h.radius].length).sum = 3 * l.length := fun l => by
   induction l with
   | nil => rfl
   | cons a l ih => rw [List.map_cons, List.sum_cons, ih]; simp; omega
  rw [this, List.length_take]
  omega
 have l1' := l1 x.nest.spots.length
 rw [List.take_of_length_le (Nat.le_refl _)] at l1'
 have r3 := down (n := x.lift.hooks.length) (p := fun k => OkP 30 [eventV x] 7 Post (stL x 5 ((numL0 x ++ x.nest.spots.flatMap (fun s => [s.at_.x, s.at_.y, s.turn]) ++ (x.lift.hooks.take k).flatMap (fun h => [h.at_.x, h.at_.y, h.radius])).map (Value.int .i64)) (numL0 x ++ x.nest.spots.flatMap (fun s => [s.at_.x, s.at_.y, s.turn]) ++ (x.lift.hooks.take k).flatMap (fun h => [h.at_.x, h.at_.y, h.radius])).length k)) ?_ ?_
 have r1 := down (n := x.nest.spots.length) (p := fun k => OkP 30 [eventV x] 3 Post (stL x 4 ((numL0 x ++ (x.nest.spots.take k).flatMap (fun s => [s.at_.x, s.at_.y, s.turn])).map (Value.int .i64)) (numL0 x ++ (x.nest.spots.take k).flatMap (fun s => [s.at_.x, s.at_.y, s.turn])).length k)) ?_ ?_
 ·refine pure_P (vc := noCall) noCall_ok mixed (by kernel_rfl) (by kernel_rfl) _ (e_nums x _ _) ?_
  simp only [true_and]
  exact ⟨⟨NLs_ints (numL0 x), trivial⟩, r1⟩
 ·refine ok_P (vc := noCall) noCall_ok mixed _ (l_nums1 x _ _ _ _ _) ?_
  simp only [true_and]
  refine pIfD (fun hh => absurd hh (by omega)) (fun _ => ⟨⟨NLs_ints _, trivial⟩, ?_⟩)
  rw [List.take_of_length_le (Nat.le_refl _)]
  simp only [List.take_zero, List.flatMap_nil, List.append_nil] at r3
  exact r3
 ·intro k hk ih
  refine ok_P (vc := noCall) noCall_ok mixed _ (l_nums1 x _ _ _ _ _) ?_
  have ek : ((k : Nat) : Int).toNat = k := by omega
  have lk := l1 k
  have l0 : (numL0 x).length = 15 := rfl
  simp only [true_and, ek, cell_spot hk, spotC, List.getElem?_cons_succ, List.getElem?_cons_zero, Option.getD_some, toI, wrapSucc (show k < 2 ^ 62 by omega)]
  refine pIfD (fun _ => ⟨⟨by omega, by omega⟩, ⟨by omega, by omega⟩, ⟨by omega, by omega⟩, by omega, by rw [List.length_append]; omega, by rw [List.length_map]; omega, ⟨?_, trivial⟩, ?_⟩) (fun hh => absurd hh (by omega))
  ·have := NLs_ints (numL0 x ++ (x.nest.spots.take k).flatMap (fun s => [s.at_.x, s.at_.y, s.turn]) ++ [x.nest.spots[k].at_.x, x.nest.spots[k].at_.y, x.nest.spots[k].turn])
   rwa [List.map_append] at this
  ·rw [take_flat hk, ← List.append_assoc, List.map_append, List.length_append] at ih
   exact ih
 ·refine ok_P (vc := noCall) noCall_ok mixed _ (l_nums2 x _ _ _ _ _) ?_
  simp only [true_and]
  refine pIfD (fun hh => absurd hh (by omega)) (fun _ => ?_)
  rw [List.take_of_length_le (Nat.le_refl _)]
  refine ⟨⟨by rw [List.length_map]; omega, NLs_ints _⟩, ?_⟩
  refine of_v h ?_
  have e : chunks 1 (numL x).length (List.drop 0 ((numL x).map (Value.int .i64))) = encL (numL x) := by
   show (((numL x).map (Value.int .i64)).take _).toArray = _
   rw [List.take_of_length_le (by rw [List.length_map]; exact Nat.le_refl _)]
   rfl
  exact (congrArg (tree 1 (numL x).length) e).symm
 ·intro k hk ih
  refine ok_P (vc := noCall) noCall_ok mixed _ (l_nums2 x _ _ _ _ _) ?_
  have ek : ((k : Nat) : Int).toNat = k := by omega
  have lk := l3 k
  have l0 : (numL0 x).length = 15 := rfl
  simp only [true_and, ek, cell_hook hk, hook4C, List.getElem?_cons_succ, List.getElem?_cons_zero, Option.getD_some, toI, wrapSucc (show k < 2 ^ 62 by omega)]
  refine pIfD (fun _ => ⟨⟨by omega, by omega⟩, ⟨by omega, by omega⟩, ⟨by omega, by omega⟩, by omega, by rw [List.length_append, List.length_append]; omega, by rw [List.length_map]; omega, ⟨?_, trivial⟩, ?_⟩) (fun hh => absurd hh (by omega))
  ·have := NLs_ints (numL0 x ++ x.nest.spots.flatMap (fun s => [s.at_.x, s.at_.y, s.turn]) ++ (x.lift.hooks.take k).flatMap (fun h => [h.at_.x, h.at_.y, h.radius]) ++ [x.lift.hooks[k].at_.x, x.lift.hooks[k].at_.y, x.lift.hooks[k].radius])
   rwa [List.map_append] at this
  ·rw [take_flat hk, ← List.append_assoc, List.map_append, List.length_append] at ih
   exact ih
end Go.Proofs.YtegjnjmimfgijaaGreatDoor
