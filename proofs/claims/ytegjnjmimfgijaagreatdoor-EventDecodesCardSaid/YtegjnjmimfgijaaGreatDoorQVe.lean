/-
  Put together out of several texts, each in its own namespace's block. Conditions: as each theorem states them.
-/
import Derived.Test.YtegjnjmimfgijaaGreatDoorQPk
import Derived.Test.YtegjnjmimfgijaaGreatDoorQBlg
noncomputable section
namespace Go.Proofs.YtegjnjmimfgijaaGreatDoor
open Go Go.RowKit
set_option maxRecDepth 100000
set_option maxHeartbeats 8000000
theorem callR_ok : PCallOk Tryz.prog callR := inlP_ok mixed (ofV_ok (itabCall_ok (by
 intro e he
 simp only [tabRd, List.mem_cons, List.not_mem_nil, or_false] at he
 rcases he with rfl | rfl | rfl | rfl
 ·exact ok_kI
 ·exact ok_kT
 ·exact ok_kL
 ·exact ok_kB) noCall_ok)) 5
theorem take_set3 {L : List Value} {o k j : Nat} {v : Value} (h : k < L.length) (ho : o = k) (hj : j = k + 1) : (L.set o v).take j = L.take k ++ [v] := by
 subst ho hj
 exact set_take h
abbrev panE (e : Nat) : Out := .pan (.iface 50 (.int .i64 (.ofNat (e + 1))))
abbrev retU : Out := .ret (.tuple #[])
theorem rl5 (k a w g : Int) (u : ByteArray) (N : Nat) (hN : N ≤ 100) {Post : Out → List (List Value) → Prop} : ∀ (m i : Nat) (s : ByteArray) (L : List Value) (d : List Spot), i + m = N → d.length = i → L.length = N * 5 → NLs L → L.take (i * 5) = rowC d → s.size < 4611686018427387904 →
  (∀ es r, rdEs [.t, nF, nF, nF, .b] m s = .ok es r → Post retU [(cR5 k a g u (tree 5 (d ++ es.map toSpot).length (encL (d ++ es.map toSpot)))), [ptr2, .int .i64 w], [.string r, .int .i64 0]]) →
  (∀ e, rdEs [.t, nF, nF, nF, .b] m s = .err e → ∀ c r, c.length = 40 → Post (panE e) [c, [ptr2, .int .i64 w], [.string r, .int .i64 (.ofNat (e + 1))]]) → OkX Tryz.prog 22 argsR 3 Post (lpC Tryz.prog 22 19) (lpK Tryz.prog 22 19) (sR5 k a w g u s L N (i)) := by
 intro m
 induction m with
 | zero =>
  intro i s L d h1 h2 h3 h4 h5 h6 hO hE
  obtain rfl : i = N := by omega
  refine ok_X callR_ok mixed [(19, [0, 1, 132, 133]), (31, [0, 1, 203, 204]), (55, [0, 1, 330, 331])] (l_rd5 k a w g u s L i i _ _) ?_
  simp only [true_and, and_true]
  refine pIfD (fun hh => absurd hh (by omega)) (fun _ => ?_)
  have e1 : L = rowC d := by rw [← h5, List.take_of_length_le (by omega)]
  have e2 : chunks 5 i (List.drop 0 L) = encL d := by rw [List.drop_zero, e1, ← h2]; exact chunks_row d
  have hz := hO [] s rfl
  rw [List.map_nil, List.append_nil, h2] at hz
  rw [e2]
  repeat' (first | exact rfl | refine And.intro ?_ ?_ | trivial | exact h4 | omega | exact hz)
 | succ m ih =>
  intro i s L d h1 h2 h3 h4 h5 h6 hO hE
  refine ok_X callR_ok mixed [(19, [0, 1, 132, 133]), (31, [0, 1, 203, 204]), (55, [0, 1, 330, 331])] (l_rd5 k a w g u s L N i _ _) ?_
  have ek : ((i : Nat) : Int).toNat = i := by omega
  simp only [true_and, and_true, ek, wrapSucc (show i < 2 ^ 62 by omega), setFrom]
  refine pIfD (fun _ => ?_) (fun hh => absurd hh (by omega))
  repeat' (first | exact rfl | refine And.intro ?_ ?_ | trivial | decide | omega | (simp only [List.length_set]; omega) | exact h4 | exact (NLs_set h4 rfl))
  rotate_left
  ·intro e ee
   repeat' (first | exact rfl | refine And.intro ?_ ?_ | trivial | exact hE e (by simp only [rdEs, rdFs, rdF, Rs.bind, ee]) _ _ rfl | decide | omega | (simp only [List.length_set]; omega) | exact (NLs_set h4 rfl) | exact (NLs_set (NLs_set h4 rfl) rfl))
  intro v0 r0 e0
  have q0 := leT e0
  repeat' (first | exact rfl | refine And.intro ?_ ?_ | trivial | decide | omega | (simp only [List.length_set]; omega) | exact (NLs_set h4 rfl) | exact (NLs_set (NLs_set h4 rfl) rfl))
  rotate_left
  ·intro e ee
   repeat' (first | exact rfl | refine And.intro ?_ ?_ | trivial | exact hE e (by simp only [rdEs, rdFs, rdF, Rs.bind, e0, ee]) _ _ rfl | decide | omega | (simp only [List.length_set]; omega) | exact (NLs_set (NLs_set h4 rfl) rfl) | exact (NLs_set (NLs_set (NLs_set h4 rfl) rfl) rfl))
  intro v1 r1 e1
  have q1 := leI e1
  repeat' (first | exact rfl | refine And.intro ?_ ?_ | trivial | decide | omega | (simp only [List.length_set]; omega) | exact (NLs_set (NLs_set h4 rfl) rfl) | exact (NLs_set (NLs_set (NLs_set h4 rfl) rfl) rfl))
  rotate_left
  ·intro e ee
   repeat' (first | exact rfl | refine And.intro ?_ ?_ | trivial | exact hE e (by simp only [rdEs, rdFs, rdF, Rs.bind, e0, e1, ee]) _ _ rfl | decide | omega | (simp only [List.length_set]; omega) | exact (NLs_set (NLs_set (NLs_set h4 rfl) rfl) rfl) | exact (NLs_set (NLs_set (NLs_set (NLs_set h4 rfl) rfl) rfl) rfl))
  intro v2 r2 e2
  have q2 := leI e2
  repeat' (first | exact rfl | refine And.intro ?_ ?_ | trivial | decide | omega | (simp only [List.length_set]; omega) | exact (NLs_set (NLs_set (NLs_set h4 rfl) rfl) rfl) | exact (NLs_set (NLs_set (NLs_set (NLs_set h4 rfl) rfl) rfl) rfl))
  rotate_left
  ·intro e ee
   repeat' (first | exact rfl | refine And.intro ?_ ?_ | trivial | exact hE e (by simp only [rdEs, rdFs, rdF, Rs.bind, e0, e1, e2, ee]) _ _ rfl | decide | omega | (simp only [List.length_set]; omega) | exact (NLs_set (NLs_set (NLs_set (NLs_set h4 rfl) rfl) rfl) rfl) | exact (NLs_set (NLs_set (NLs_set (NLs_set (NLs_set h4 rfl) rfl) rfl) rfl) rfl))
  intro v3 r3 e3
  have q3 := leI e3
  repeat' (first | exact rfl | refine And.intro ?_ ?_ | trivial | decide | omega | (simp only [List.length_set]; omega) | exact (NLs_set (NLs_set (NLs_set (NLs_set h4 rfl) rfl) rfl) rfl) | exact (NLs_set (NLs_set (NLs_set (NLs_set (NLs_set h4 rfl) rfl) rfl) rfl) rfl))
  rotate_left
  ·intro e ee
   repeat' (first | exact rfl | refine And.intro ?_ ?_ | trivial | exact hE e (by simp only [rdEs, rdFs, rdF, Rs.bind, e0, e1, e2, e3, ee]) _ _ rfl | decide | omega | (simp only [List.length_set]; omega) | exact (NLs_set (NLs_set (NLs_set (NLs_set (NLs_set h4 rfl) rfl) rfl) rfl) rfl) | exact (NLs_set (NLs_set (NLs_set (NLs_set (NLs_set (NLs_set h4 rfl) rfl) rfl) rfl) rfl) rfl))
  intro v4 r4 e4
  have q4 := leB e4
  have hn : NLs (((((L.set (0 + i * 5 + 0) (.string v0)).set (0 + i * 5 + 1 + 0) (.int .i64 v1)).set (0 + i * 5 + 1 + 1) (.int .i64 v2)).set (0 + i * 5 + 3) (.int .i64 v3)).set (0 + i * 5 + 4) (.bool v4)) := (NLs_set (NLs_set (NLs_set (NLs_set (NLs_set h4 rfl) rfl) rfl) rfl) rfl)
  have ht : ((((((L.set (0 + i * 5 + 0) (.string v0)).set (0 + i * 5 + 1 + 0) (.int .i64 v1)).set (0 + i * 5 + 1 + 1) (.int .i64 v2)).set (0 + i * 5 + 3) (.int .i64 v3)).set (0 + i * 5 + 4) (.bool v4))).take ((i + 1) * 5) = rowC (d ++ [⟨v0, ⟨v1, v2⟩, v3, v4⟩]) := by
   rw [rowC_snoc, ← h5, take_set3 (k := i * 5 + 4) (by first | omega | (simp only [List.length_set]; omega)) (by omega) (by omega), take_set3 (k := i * 5 + 3) (by first | omega | (simp only [List.length_set]; omega)) (by omega) (by omega), take_set3 (k := i * 5 + 2) (by first | omega | (simp only [List.length_set]; omega)) (by omega) (by omega), take_set3 (k := i * 5 + 1) (by first | omega | (simp only [List.length_set]; omega)) (by omega) (by omega), take_set3 (k := i * 5 + 0) (by first | omega | (simp only [List.length_set]; omega)) (by omega) (by omega)]
   simp only [List.append_assoc, Nat.add_zero]
   rfl
  have hz : OkX Tryz.prog 22 argsR 3 Post (lpC Tryz.prog 22 19) (lpK Tryz.prog 22 19) (sR5 k a w g u r4 (((((L.set (0 + i * 5 + 0) (.string v0)).set (0 + i * 5 + 1 + 0) (.int .i64 v1)).set (0 + i * 5 + 1 + 1) (.int .i64 v2)).set (0 + i * 5 + 3) (.int .i64 v3)).set (0 + i * 5 + 4) (.bool v4)) N (((i + 1 : Nat) : Int))) := ih (i + 1) r4 (((((L.set (0 + i * 5 + 0) (.string v0)).set (0 + i * 5 + 1 + 0) (.int .i64 v1)).set (0 + i * 5 + 1 + 1) (.int .i64 v2)).set (0 + i * 5 + 3) (.int .i64 v3)).set (0 + i * 5 + 4) (.bool v4)) (d ++ [⟨v0, ⟨v1, v2⟩, v3, v4⟩]) (by omega) (by simp; omega) (by simp only [List.length_set]; exact h3) hn ht (by omega) (fun es r he => by
    have := hO ([.s v0, .i v1, .i v2, .i v3, .b v4] :: es) r (by simp only [rdEs, rdFs, rdF, Rs.bind, e0, e1, e2, e3, e4, he])
    rw [List.map_cons, show toSpot [.s v0, .i v1, .i v2, .i v3, .b v4] = (⟨v0, ⟨v1, v2⟩, v3, v4⟩ : Spot) from rfl, show d ++ (⟨v0, ⟨v1, v2⟩, v3, v4⟩ : Spot) :: es.map toSpot = d ++ [⟨v0, ⟨v1, v2⟩, v3, v4⟩] ++ es.map toSpot by simp] at this
    exact this) (fun e he => hE e (by simp only [rdEs, rdFs, rdF, Rs.bind, e0, e1, e2, e3, e4, he]))
  cases v4 <;> refine pIf_intro (fun hb => ?_) (fun hb => ?_) <;> first | (cases hb; done) | skip
  all_goals
   repeat' (first | exact rfl | exact hz | refine And.intro ?_ ?_ | trivial | decide | omega | (simp only [List.length_set]; omega) | exact hn)
theorem rl6 (k a w g : Int) (u : ByteArray) (N : Nat) (hN : N ≤ 100) {Post : Out → List (List Value) → Prop} : ∀ (m i : Nat) (s : ByteArray) (L : List Value) (d : List ByteArray), i + m = N → d.length = i → L.length = N * 1 → NLs L → L.take (i * 1) = rowC d → s.size < 4611686018427387904 →
  (∀ es r, rdEs [.t] m s = .ok es r → Post retU [(cR6 k a g u (tree 1 (d ++ es.map toName).length (encL (d ++ es.map toName)))), [ptr2, .int .i64 w], [.string r, .int .i64 0]]) →
  (∀ e, rdEs [.t] m s = .err e → ∀ c r, c.length = 40 → Post (panE e) [c, [ptr2, .int .i64 w], [.string r, .int .i64 (.ofNat (e + 1))]]) → OkX Tryz.prog 22 argsR 3 Post (lpC Tryz.prog 22 31) (lpK Tryz.prog 22 31) (sR6 k a w g u s L N (i)) := by
 intro m
 induction m with
 | zero =>
  intro i s L d h1 h2 h3 h4 h5 h6 hO hE
  obtain rfl : i = N := by omega
  refine ok_X callR_ok mixed [(19, [0, 1, 132, 133]), (31, [0, 1, 203, 204]), (55, [0, 1, 330, 331])] (l_rd6 k a w g u s L i i _ _) ?_
  simp only [true_and, and_true]
  refine pIfD (fun hh => absurd hh (by omega)) (fun _ => ?_)
  have e1 : L = rowC d := by rw [← h5, List.take_of_length_le (by omega)]
  have e2 : chunks 1 i (List.drop 0 L) = encL d := by rw [List.drop_zero, e1, ← h2]; exact chunks_row d
  have hz := hO [] s rfl
  rw [List.map_nil, List.append_nil, h2] at hz
  rw [e2]
  repeat' (first | exact rfl | refine And.intro ?_ ?_ | trivial | exact h4 | omega | exact hz)
 | succ m ih =>
  intro i s L d h1 h2 h3 h4 h5 h6 hO hE
  refine ok_X callR_ok mixed [(19, [0, 1, 132, 133]), (31, [0, 1, 203, 204]), (55, [0, 1, 330, 331])] (l_rd6 k a w g u s L N i _ _) ?_
  have ek : ((i : Nat) : Int).toNat = i := by omega
  simp only [true_and, and_true, ek, wrapSucc (show i < 2 ^ 62 by omega), setFrom]
  refine pIfD (fun _ => ?_) (fun hh => absurd hh (by omega))
  repeat' (first | exact rfl | refine And.intro ?_ ?_ | trivial | decide | omega | (simp only [List.length_set]; omega) | exact h4 | exact (NLs_set h4 rfl))
  rotate_left
  ·intro e ee
   repeat' (first | exact rfl | refine And.intro ?_ ?_ | trivial | exact hE e (by simp only [rdEs, rdFs, rdF, Rs.bind, ee]) _ _ rfl | decide | omega | (simp only [List.length_set]; omega) | exact (NLs_set h4 rfl) | exact (NLs_set (NLs_set h4 rfl) rfl))
  intro v0 r0 e0
  have q0 := leT e0
  have hn : NLs (L.set (0 + i * 1) (.string v0)) := (NLs_set h4 rfl)
  have ht : ((L.set (0 + i * 1) (.string v0))).take ((i + 1) * 1) = rowC (d ++ [v0]) := by
   rw [rowC_snoc, ← h5, take_set3 (k := i * 1 + 0) (by first | omega | (simp only [List.length_set]; omega)) (by omega) (by omega)]
   simp only [List.append_assoc, Nat.add_zero]
   rfl
  have hz : OkX Tryz.prog 22 argsR 3 Post (lpC Tryz.prog 22 31) (lpK Tryz.prog 22 31) (sR6 k a w g u r0 (L.set (0 + i * 1) (.string v0)) N (((i + 1 : Nat) : Int))) := ih (i + 1) r0 (L.set (0 + i * 1) (.string v0)) (d ++ [v0]) (by omega) (by simp; omega) (by simp only [List.length_set]; exact h3) hn ht (by omega) (fun es r he => by
    have := hO ([.s v0] :: es) r (by simp only [rdEs, rdFs, rdF, Rs.bind, e0, he])
    rw [List.map_cons, show toName [.s v0] = (v0 : ByteArray) from rfl, show d ++ (v0 : ByteArray) :: es.map toName = d ++ [v0] ++ es.map toName by simp] at this
    exact this) (fun e he => hE e (by simp only [rdEs, rdFs, rdF, Rs.bind, e0, he]))
  repeat' (first | exact rfl | exact hz | refine And.intro ?_ ?_ | trivial | decide | omega | (simp only [List.length_set]; omega) | exact hn)
theorem rl14 (k a w g : Int) (u : ByteArray) (N : Nat) (hN : N ≤ 100) {Post : Out → List (List Value) → Prop} : ∀ (m i : Nat) (s : ByteArray) (L : List Value) (d : List Hook4), i + m = N → d.length = i → L.length = N * 4 → NLs L → L.take (i * 4) = rowC d → s.size < 4611686018427387904 →
  (∀ es r, rdEs [.t, nF, nF, nF] m s = .ok es r → Post retU [(cR14 k a g u (tree 4 (d ++ es.map toHook).length (encL (d ++ es.map toHook)))), [ptr2, .int .i64 w], [.string r, .int .i64 0]]) →
  (∀ e, rdEs [.t, nF, nF, nF] m s = .err e → ∀ c r, c.length = 40 → Post (panE e) [c, [ptr2, .int .i64 w], [.string r, .int .i64 (.ofNat (e + 1))]]) → OkX Tryz.prog 22 argsR 3 Post (lpC Tryz.prog 22 55) (lpK Tryz.prog 22 55) (sR14 k a w g u s L N (i)) := by
 intro m
 induction m with
 | zero =>
  intro i s L d h1 h2 h3 h4 h5 h6 hO hE
  obtain rfl : i = N := by omega
  refine ok_X callR_ok mixed [(19, [0, 1, 132, 133]), (31, [0, 1, 203, 204]), (55, [0, 1, 330, 331])] (l_rd14 k a w g u s L i i _ _) ?_
  simp only [true_and, and_true]
  refine pIfD (fun hh => absurd hh (by omega)) (fun _ => ?_)
  have e1 : L = rowC d := by rw [← h5, List.take_of_length_le (by omega)]
  have e2 : chunks 4 i (List.drop 0 L) = encL d := by rw [List.drop_zero, e1, ← h2]; exact chunks_row d
  have hz := hO [] s rfl
  rw [List.map_nil, List.append_nil, h2] at hz
  rw [e2]
  repeat' (first | exact rfl | refine And.intro ?_ ?_ | trivial | exact h4 | omega | exact hz)
 | succ m ih =>
  intro i s L d h1 h2 h3 h4 h5 h6 hO hE
  refine ok_X callR_ok mixed [(19, [0, 1, 132, 133]), (31, [0, 1, 203, 204]), (55, [0, 1, 330, 331])] (l_rd14 k a w g u s L N i _ _) ?_
  have ek : ((i : Nat) : Int).toNat = i := by omega
  simp only [true_and, and_true, ek, wrapSucc (show i < 2 ^ 62 by omega), setFrom]
  refine pIfD (fun _ => ?_) (fun hh => absurd hh (by omega))
  repeat' (first | exact rfl | refine And.intro ?_ ?_ | trivial | decide | omega | (simp only [List.length_set]; omega) | exact h4 | exact (NLs_set h4 rfl))
  rotate_left
  ·intro e ee
   repeat' (first | exact rfl | refine And.intro ?_ ?_ | trivial | exact hE e (by simp only [rdEs, rdFs, rdF, Rs.bind, ee]) _ _ rfl | decide | omega | (simp only [List.length_set]; omega) | exact (NLs_set h4 rfl) | exact (NLs_set (NLs_set h4 rfl) rfl))
  intro v0 r0 e0
  have q0 := leT e0
  repeat' (first | exact rfl | refine And.intro ?_ ?_ | trivial | decide | omega | (simp only [List.length_set]; omega) | exact (NLs_set h4 rfl) | exact (NLs_set (NLs_set h4 rfl) rfl))
  rotate_left
  ·intro e ee
   repeat' (first | exact rfl | refine And.intro ?_ ?_ | trivial | exact hE e (by simp only [rdEs, rdFs, rdF, Rs.bind, e0, ee]) _ _ rfl | decide | omega | (simp only [List.length_set]; omega) | exact (NLs_set (NLs_set h4 rfl) rfl) | exact (NLs_set (NLs_set (NLs_set h4 rfl) rfl) rfl))
  intro v1 r1 e1
  have q1 := leI e1
  repeat' (first | exact rfl | refine And.intro ?_ ?_ | trivial | decide | omega | (simp only [List.length_set]; omega) | exact (NLs_set (NLs_set h4 rfl) rfl) | exact (NLs_set (NLs_set (NLs_set h4 rfl) rfl) rfl))
  rotate_left
  ·intro e ee
   repeat' (first | exact rfl | refine And.intro ?_ ?_ | trivial | exact hE e (by simp only [rdEs, rdFs, rdF, Rs.bind, e0, e1, ee]) _ _ rfl | decide | omega | (simp only [List.length_set]; omega) | exact (NLs_set (NLs_set (NLs_set h4 rfl) rfl) rfl) | exact (NLs_set (NLs_set (NLs_set (NLs_set h4 rfl) rfl) rfl) rfl))
  intro v2 r2 e2
  have q2 := leI e2
  repeat' (first | exact rfl | refine And.intro ?_ ?_ | trivial | decide | omega | (simp only [List.length_set]; omega) | exact (NLs_set (NLs_set (NLs_set h4 rfl) rfl) rfl) | exact (NLs_set (NLs_set (NLs_set (NLs_set h4 rfl) rfl) rfl) rfl))
  rotate_left
  ·intro e ee
   repeat' (first | exact rfl | refine And.intro ?_ ?_ | trivial | exact hE e (by simp only [rdEs, rdFs, rdF, Rs.bind, e0, e1, e2, ee]) _ _ rfl | decide | omega | (simp only [List.length_set]; omega) | exact (NLs_set (NLs_set (NLs_set (NLs_set h4 rfl) rfl) rfl) rfl) | exact (NLs_set (NLs_set (NLs_set (NLs_set (NLs_set h4 rfl) rfl) rfl) rfl) rfl))
  intro v3 r3 e3
  have q3 := leI e3
  have hn : NLs ((((L.set (0 + i * 4 + 0) (.string v0)).set (0 + i * 4 + 1 + 0) (.int .i64 v1)).set (0 + i * 4 + 1 + 1) (.int .i64 v2)).set (0 + i * 4 + 3) (.int .i64 v3)) := (NLs_set (NLs_set (NLs_set (NLs_set h4 rfl) rfl) rfl) rfl)
  have ht : (((((L.set (0 + i * 4 + 0) (.string v0)).set (0 + i * 4 + 1 + 0) (.int .i64 v1)).set (0 + i * 4 + 1 + 1) (.int .i64 v2)).set (0 + i * 4 + 3) (.int .i64 v3))).take ((i + 1) * 4) = rowC (d ++ [⟨v0, ⟨v1, v2⟩, v3⟩]) := by
   rw [rowC_snoc, ← h5, take_set3 (k := i * 4 + 3) (by first | omega | (simp only [List.length_set]; omega)) (by omega) (by omega), take_set3 (k := i * 4 + 2) (by first | omega | (simp only [List.length_set]; omega)) (by omega) (by omega), take_set3 (k := i * 4 + 1) (by first | omega | (simp only [List.length_set]; omega)) (by omega) (by omega), take_set3 (k := i * 4 + 0) (by first | omega | (simp only [List.length_set]; omega)) (by omega) (by omega)]
   simp only [List.append_assoc, Nat.add_zero]
   rfl
  have hz : OkX Tryz.prog 22 argsR 3 Post (lpC Tryz.prog 22 55) (lpK Tryz.prog 22 55) (sR14 k a w g u r3 ((((L.set (0 + i * 4 + 0) (.string v0)).set (0 + i * 4 + 1 + 0) (.int .i64 v1)).set (0 + i * 4 + 1 + 1) (.int .i64 v2)).set (0 + i * 4 + 3) (.int .i64 v3)) N (((i + 1 : Nat) : Int))) := ih (i + 1) r3 ((((L.set (0 + i * 4 + 0) (.string v0)).set (0 + i * 4 + 1 + 0) (.int .i64 v1)).set (0 + i * 4 + 1 + 1) (.int .i64 v2)).set (0 + i * 4 + 3) (.int .i64 v3)) (d ++ [⟨v0, ⟨v1, v2⟩, v3⟩]) (by omega) (by simp; omega) (by simp only [List.length_set]; exact h3) hn ht (by omega) (fun es r he => by
    have := hO ([.s v0, .i v1, .i v2, .i v3] :: es) r (by simp only [rdEs, rdFs, rdF, Rs.bind, e0, e1, e2, e3, he])
    rw [List.map_cons, show toHook [.s v0, .i v1, .i v2, .i v3] = (⟨v0, ⟨v1, v2⟩, v3⟩ : Hook4) from rfl, show d ++ (⟨v0, ⟨v1, v2⟩, v3⟩ : Hook4) :: es.map toHook = d ++ [⟨v0, ⟨v1, v2⟩, v3⟩] ++ es.map toHook by simp] at this
    exact this) (fun e he => hE e (by simp only [rdEs, rdFs, rdF, Rs.bind, e0, e1, e2, e3, he]))
  repeat' (first | exact rfl | exact hz | refine And.intro ?_ ?_ | trivial | decide | omega | (simp only [List.length_set]; omega) | exact hn)
def lax : List Value → List Value → Prop
 | [], [] => True
 | u :: us, v :: vs => (u = v ∨ (u = nilS ∧ ∃ sz, v = tree sz 0 #[])) ∧ lax us vs
 | _, _ => False
theorem NLs_zrow {z : List Value} (h : NLs z) : ∀ n, NLs (zrow n z)
 | 0 => fun v hv => by simp [zrow] at hv
 | n + 1 => fun v hv => by
  rw [zrow] at hv
  rcases List.mem_append.1 hv with hv | hv
  ·exact h v hv
  ·exact NLs_zrow h n v hv
abbrev OK_r (n : Nat) (k a w : Int) (s : ByteArray) (Q : Out → List (List Value) → Prop) : Prop := ∀ vs es r, rdBody n s = .ok (vs, es) r → ∀ c, lax c (eventC (mkEv k a vs es)) → Q retU [c, [ptr2, .int .i64 w], [.string r, .int .i64 0]]
abbrev ER_r (n : Nat) (w : Int) (s : ByteArray) (Q : Out → List (List Value) → Prop) : Prop := ∀ e, rdBody n s = .err e → ∀ c r, c.length = 40 → Q (panE e) [c, [ptr2, .int .i64 w], [.string r, .int .i64 (.ofNat (e + 1))]]
theorem vr_X {k a w : Int} {s : ByteArray} (k1 : 2 ≤ k) (k2 : k ≤ 18) (hs : s.size < 4611686018427387904) {Q : Out → List (List Value) → Prop}
  (hO : OK_r k.toNat k a w s Q) (hE : ER_r k.toNat w s Q) :
  SpecX Tryz.prog 22 3 (hpOf [cells0 k a, [ptr2, .int .i64 w], [.string s, .int .i64 0]]) argsR (xpost 3 Q) := by
 refine spec_X callR_ok mixed (by kernel_rfl) (by kernel_rfl) [(19, [0, 1, 132, 133]), (31, [0, 1, 203, 204]), (55, [0, 1, 330, 331])] (e_rd k a w s _ _) ?_
 simp only [true_and, and_true]
 refine pIfD (fun hk => absurd hk (by omega)) (fun n1 => ?_)
 refine pIfD (fun hk => ?_) (fun n2 => ?_)
 ·clear k1 k2
  subst hk
  replace hO : OK_r 2 2 a w s Q := hO
  replace hE : ER_r 2 w s Q := hE
  and_intros <;> try first | omega | decide | rfl
  rotate_left
  ·intro e ee
   and_intros <;> try first | omega | decide | rfl | exact hE e (by simp only [rdBody, shN, rdFs, rdF, Rs.bind, ee]) _ _ rfl
  intro v0 r0 e0
  have q0 := leT e0
  and_intros <;> try first | omega | decide | rfl
  rotate_left
  ·intro e ee
   and_intros <;> try first | omega | decide | rfl | exact hE e (by simp only [rdBody, shN, rdFs, rdF, Rs.bind, e0, ee]) _ _ rfl
  intro v1 r1 e1
  have q1 := leT e1
  and_intros <;> try first | omega | decide | rfl
  rotate_left
  ·intro e ee
   and_intros <;> try first | omega | decide | rfl | exact hE e (by simp only [rdBody, shN, rdFs, rdF, Rs.bind, e0, e1, ee]) _ _ rfl
  intro v2 r2 e2
  have q2 := leI e2
  and_intros <;> try first | omega | decide | rfl
  rotate_left
  ·intro e ee
   and_intros <;> try first | omega | decide | rfl | exact hE e (by simp only [rdBody, shN, rdFs, rdF, Rs.bind, e0, e1, e2, ee]) _ _ rfl
  intro v3 r3 e3
  have q3 := leI e3
  and_intros <;> try first | omega | decide | rfl
  rotate_left
  ·intro e ee
   and_intros <;> try first | omega | decide | rfl | exact hE e (by simp only [rdBody, shN, rdFs, rdF, Rs.bind, e0, e1, e2, e3, ee]) _ _ rfl
  intro v4 r4 e4
  have q4 := leI e4
  and_intros <;> try first | omega | decide | rfl
  rotate_left
  ·intro e ee
   and_intros <;> try first | omega | decide | rfl | exact hE e (by simp only [rdBody, shN, rdFs, rdF, Rs.bind, e0, e1, e2, e3, e4, ee]) _ _ rfl
  intro v5 r5 e5
  have q5 := leT e5
  have hz := fun c => hO [.s v0, .s v1, .i v2, .i v3, .i v4, .s v5] [] r5 (by simp only [rdBody, shN, rdFs, rdF, Rs.bind, e0, e1, e2, e3, e4, e5, rdLs, shE]) c
  and_intros <;> try first | omega | decide | rfl | exact hz _ (by repeat' (first | exact trivial | refine ⟨.inl rfl, ?_⟩ | refine ⟨.inr ⟨rfl, _, rfl⟩, ?_⟩))
 refine pIfD (fun hk => ?_) (fun n3 => ?_)
 ·clear k1 k2
  subst hk
  replace hO : OK_r 3 3 a w s Q := hO
  replace hE : ER_r 3 w s Q := hE
  and_intros <;> try first | omega | decide | rfl
  rotate_left
  ·intro e ee
   and_intros <;> try first | omega | decide | rfl | exact hE e (by simp only [rdBody, shN, rdFs, rdF, Rs.bind, ee]) _ _ rfl
  intro v0 r0 e0
  have q0 := leT e0
  and_intros <;> try first | omega | decide | rfl
  rotate_left
  ·intro e ee
   and_intros <;> try first | omega | decide | rfl | exact hE e (by simp only [rdBody, shN, rdFs, rdF, Rs.bind, e0, ee]) _ _ rfl
  intro v1 r1 e1
  have q1 := leT e1
  and_intros <;> try first | omega | decide | rfl
  rotate_left
  ·intro e ee
   and_intros <;> try first | omega | decide | rfl | exact hE e (by simp only [rdBody, shN, rdFs, rdF, Rs.bind, e0, e1, ee]) _ _ rfl
  intro v2 r2 e2
  have q2 := leT e2
  and_intros <;> try first | omega | decide | rfl
  rotate_left
  ·intro e ee
   and_intros <;> try first | omega | decide | rfl | exact hE e (by simp only [rdBody, shN, rdFs, rdF, Rs.bind, e0, e1, e2, ee]) _ _ rfl
  intro v3 r3 e3
  have q3 := leI e3
  and_intros <;> try first | omega | decide | rfl
  rotate_left
  ·intro e ee
   and_intros <;> try first | omega | decide | rfl | exact hE e (by simp only [rdBody, shN, rdFs, rdF, Rs.bind, e0, e1, e2, e3, ee]) _ _ rfl
  intro v4 r4 e4
  have q4 := leT e4
  have hz := fun c => hO [.s v0, .s v1, .s v2, .i v3, .s v4] [] r4 (by simp only [rdBody, shN, rdFs, rdF, Rs.bind, e0, e1, e2, e3, e4, rdLs, shE]) c
  and_intros <;> try first | omega | decide | rfl | exact hz _ (by repeat' (first | exact trivial | refine ⟨.inl rfl, ?_⟩ | refine ⟨.inr ⟨rfl, _, rfl⟩, ?_⟩))
 refine pIfD (fun hk => ?_) (fun n4 => ?_)
 ·clear k1 k2
  subst hk
  replace hO : OK_r 4 4 a w s Q := hO
  replace hE : ER_r 4 w s Q := hE
  and_intros <;> try first | omega | decide | rfl
  rotate_left
  ·intro e ee
   and_intros <;> try first | omega | decide | rfl | exact hE e (by simp only [rdBody, shN, rdFs, rdF, Rs.bind, ee]) _ _ rfl
  intro v0 r0 e0
  have q0 := leT e0
  and_intros <;> try first | omega | decide | rfl
  rotate_left
  ·intro e ee
   and_intros <;> try first | omega | decide | rfl | exact hE e (by simp only [rdBody, shN, rdFs, rdF, Rs.bind, e0, ee]) _ _ rfl
  intro v1 r1 e1
  have q1 := leT e1
  have hz := fun c => hO [.s v0, .s v1] [] r1 (by simp only [rdBody, shN, rdFs, rdF, Rs.bind, e0, e1, rdLs, shE]) c
  and_intros <;> try first | omega | decide | rfl | exact hz _ (by repeat' (first | exact trivial | refine ⟨.inl rfl, ?_⟩ | refine ⟨.inr ⟨rfl, _, rfl⟩, ?_⟩))
 refine pIfD (fun hk => ?_) (fun n5 => ?_)
 ·clear k1 k2
  subst hk
  replace hO : OK_r 5 5 a w s Q := hO
  replace hE : ER_r 5 w s Q := hE
  and_intros <;> try first | omega | decide | rfl
  rotate_left
  ·intro e ee
   and_intros <;> try first | omega | decide | rfl | exact hE e (by simp only [rdBody, shN, rdFs, rdF, Rs.bind, ee]) _ _ rfl
  intro v0 r0 e0
  have q0 := leT e0
  and_intros <;> try first | omega | decide | rfl
  rotate_left
  ·intro e ee
   and_intros <;> try first | omega | decide | rfl | exact hE e (by simp only [rdBody, shN, rdFs, rdF, Rs.bind, e0, ee]) _ _ rfl
  intro v1 r1 e1
  have q1 := leI e1
  and_intros <;> try first | omega | decide | rfl
  rotate_left
  ·intro e ee
   and_intros <;> try first | omega | decide | rfl | exact hE e (by simp only [rdBody, shN, rdFs, rdF, Rs.bind, e0, e1, rdLs, shE, ee]) _ _ rfl
  intro n rn en
  obtain ⟨qn, hn⟩ := leL en
  have hi : Int.ofNat n = (n : Int) := rfl
  have hz := fun es r (he : rdEs [.t, nF, nF, nF, .b] n rn = .ok es r) c => hO [.s v0, .i v1] es r (by simp only [rdBody, shN, rdFs, rdF, Rs.bind, e0, e1, rdLs, shE, en, he]) c
  have hy := fun e (he : rdEs [.t, nF, nF, nF, .b] n rn = .err e) c r => hE e (by simp only [rdBody, shN, rdFs, rdF, Rs.bind, e0, e1, rdLs, shE, en, he]) c r
  refine pIfN (fun h0 => ?_) (fun h0 => ?_)
  ·have hk := rl5 5 a w v1 v0 n (by omega) (Post := Q) n 0 rn (zrow n [.string ⟨#[]⟩, .int .i64 0, .int .i64 0, .int .i64 0, .bool false]) [] (by omega) rfl (by rw [zrow_len]; rfl) (NLs_zrow (fun v hv => List.all_eq_true.1 (show ([.string ⟨#[]⟩, .int .i64 0, .int .i64 0, .int .i64 0, .bool false] : List Value).all nl1 = true from rfl) v hv) n) (by rw [Nat.zero_mul]; rfl) (by omega) (fun es r he => hz es r he _ (by repeat' (first | exact trivial | refine ⟨.inl rfl, ?_⟩ | refine ⟨.inr ⟨rfl, _, rfl⟩, ?_⟩))) hy
   and_intros <;> try first | omega | decide | rfl | exact NLs_zrow (fun v hv => List.all_eq_true.1 (show ([.string ⟨#[]⟩, .int .i64 0, .int .i64 0, .int .i64 0, .bool false] : List Value).all nl1 = true from rfl) v hv) n | exact hk
  ·have h0 : n = 0 := by omega
   subst h0
   have hk := hz [] rn rfl
   refine ok_X callR_ok mixed [(19, [0, 1, 132, 133]), (31, [0, 1, 203, 204]), (55, [0, 1, 330, 331])] (z_rd5 5 a w v1 v0 rn _ _) ?_
   simp only [true_and, and_true]
   and_intros <;> try first | omega | decide | rfl | exact hk _ (by repeat' (first | exact trivial | refine ⟨.inl rfl, ?_⟩ | refine ⟨.inr ⟨rfl, _, rfl⟩, ?_⟩))
 refine pIfD (fun hk => ?_) (fun n6 => ?_)
 ·clear k1 k2
  subst hk
  replace hO : OK_r 6 6 a w s Q := hO
  replace hE : ER_r 6 w s Q := hE
  and_intros <;> try first | omega | decide | rfl
  rotate_left
  ·intro e ee
   and_intros <;> try first | omega | decide | rfl | exact hE e (by simp only [rdBody, shN, rdFs, rdF, Rs.bind, ee]) _ _ rfl
  intro v0 r0 e0
  have q0 := leT e0
  and_intros <;> try first | omega | decide | rfl
  rotate_left
  ·intro e ee
   and_intros <;> try first | omega | decide | rfl | exact hE e (by simp only [rdBody, shN, rdFs, rdF, Rs.bind, e0, ee]) _ _ rfl
  intro v1 r1 e1
  have q1 := leI e1
  and_intros <;> try first | omega | decide | rfl
  rotate_left
  ·intro e ee
   and_intros <;> try first | omega | decide | rfl | exact hE e (by simp only [rdBody, shN, rdFs, rdF, Rs.bind, e0, e1, rdLs, shE, ee]) _ _ rfl
  intro n rn en
  obtain ⟨qn, hn⟩ := leL en
  have hi : Int.ofNat n = (n : Int) := rfl
  have hz := fun es r (he : rdEs [.t] n rn = .ok es r) c => hO [.s v0, .i v1] es r (by simp only [rdBody, shN, rdFs, rdF, Rs.bind, e0, e1, rdLs, shE, en, he]) c
  have hy := fun e (he : rdEs [.t] n rn = .err e) c r => hE e (by simp only [rdBody, shN, rdFs, rdF, Rs.bind, e0, e1, rdLs, shE, en, he]) c r
  refine pIfN (fun h0 => ?_) (fun h0 => ?_)
  ·have hk := rl6 6 a w v1 v0 n (by omega) (Post := Q) n 0 rn (zrow n [.string ⟨#[]⟩]) [] (by omega) rfl (by rw [zrow_len]; rfl) (NLs_zrow (fun v hv => List.all_eq_true.1 (show ([.string ⟨#[]⟩] : List Value).all nl1 = true from rfl) v hv) n) (by rw [Nat.zero_mul]; rfl) (by omega) (fun es r he => hz es r he _ (by repeat' (first | exact trivial | refine ⟨.inl rfl, ?_⟩ | refine ⟨.inr ⟨rfl, _, rfl⟩, ?_⟩))) hy
   and_intros <;> try first | omega | decide | rfl | exact NLs_zrow (fun v hv => List.all_eq_true.1 (show ([.string ⟨#[]⟩] : List Value).all nl1 = true from rfl) v hv) n | exact hk
  ·have h0 : n = 0 := by omega
   subst h0
   have hk := hz [] rn rfl
   refine ok_X callR_ok mixed [(19, [0, 1, 132, 133]), (31, [0, 1, 203, 204]), (55, [0, 1, 330, 331])] (z_rd6 6 a w v1 v0 rn _ _) ?_
   simp only [true_and, and_true]
   and_intros <;> try first | omega | decide | rfl | exact hk _ (by repeat' (first | exact trivial | refine ⟨.inl rfl, ?_⟩ | refine ⟨.inr ⟨rfl, _, rfl⟩, ?_⟩))
 refine pIfD (fun hk => ?_) (fun n7 => ?_)
 ·clear k1 k2
  subst hk
  replace hO : OK_r 7 7 a w s Q := hO
  replace hE : ER_r 7 w s Q := hE
  and_intros <;> try first | omega | decide | rfl
  rotate_left
  ·intro e ee
   and_intros <;> try first | omega | decide | rfl | exact hE e (by simp only [rdBody, shN, rdFs, rdF, Rs.bind, ee]) _ _ rfl
  intro v0 r0 e0
  have q0 := leT e0
  have hz := fun c => hO [.s v0] [] r0 (by simp only [rdBody, shN, rdFs, rdF, Rs.bind, e0, rdLs, shE]) c
  and_intros <;> try first | omega | decide | rfl | exact hz _ (by repeat' (first | exact trivial | refine ⟨.inl rfl, ?_⟩ | refine ⟨.inr ⟨rfl, _, rfl⟩, ?_⟩))
 refine pIfD (fun hk => ?_) (fun n8 => ?_)
 ·clear k1 k2
  subst hk
  replace hO : OK_r 8 8 a w s Q := hO
  replace hE : ER_r 8 w s Q := hE
  and_intros <;> try first | omega | decide | rfl
  rotate_left
  ·intro e ee
   and_intros <;> try first | omega | decide | rfl | exact hE e (by simp only [rdBody, shN, rdFs, rdF, Rs.bind, ee]) _ _ rfl
  intro v0 r0 e0
  have q0 := leT e0
  have hz := fun c => hO [.s v0] [] r0 (by simp only [rdBody, shN, rdFs, rdF, Rs.bind, e0, rdLs, shE]) c
  and_intros <;> try first | omega | decide | rfl | exact hz _ (by repeat' (first | exact trivial | refine ⟨.inl rfl, ?_⟩ | refine ⟨.inr ⟨rfl, _, rfl⟩, ?_⟩))
 refine pIfD (fun hk => ?_) (fun n12 => ?_)
 ·clear k1 k2
  subst hk
  replace hO : OK_r 12 12 a w s Q := hO
  replace hE : ER_r 12 w s Q := hE
  and_intros <;> try first | omega | decide | rfl
  rotate_left
  ·intro e ee
   and_intros <;> try first | omega | decide | rfl | exact hE e (by simp only [rdBody, shN, rdFs, rdF, Rs.bind, ee]) _ _ rfl
  intro v0 r0 e0
  have q0 := leT e0
  have hz := fun c => hO [.s v0] [] r0 (by simp only [rdBody, shN, rdFs, rdF, Rs.bind, e0, rdLs, shE]) c
  and_intros <;> try first | omega | decide | rfl | exact hz _ (by repeat' (first | exact trivial | refine ⟨.inl rfl, ?_⟩ | refine ⟨.inr ⟨rfl, _, rfl⟩, ?_⟩))
 refine pIfD (fun hk => ?_) (fun n16 => ?_)
 ·clear k1 k2
  subst hk
  replace hO : OK_r 16 16 a w s Q := hO
  replace hE : ER_r 16 w s Q := hE
  and_intros <;> try first | omega | decide | rfl
  rotate_left
  ·intro e ee
   and_intros <;> try first | omega | decide | rfl | exact hE e (by simp only [rdBody, shN, rdFs, rdF, Rs.bind, ee]) _ _ rfl
  intro v0 r0 e0
  have q0 := leT e0
  have hz := fun c => hO [.s v0] [] r0 (by simp only [rdBody, shN, rdFs, rdF, Rs.bind, e0, rdLs, shE]) c
  and_intros <;> try first | omega | decide | rfl | exact hz _ (by repeat' (first | exact trivial | refine ⟨.inl rfl, ?_⟩ | refine ⟨.inr ⟨rfl, _, rfl⟩, ?_⟩))
 refine pIfD (fun hk => ?_) (fun n9 => ?_)
 ·clear k1 k2
  subst hk
  replace hO : OK_r 9 9 a w s Q := hO
  replace hE : ER_r 9 w s Q := hE
  and_intros <;> try first | omega | decide | rfl
  rotate_left
  ·intro e ee
   and_intros <;> try first | omega | decide | rfl | exact hE e (by simp only [rdBody, shN, rdFs, rdF, Rs.bind, ee]) _ _ rfl
  intro v0 r0 e0
  have q0 := leT e0
  and_intros <;> try first | omega | decide | rfl
  rotate_left
  ·intro e ee
   and_intros <;> try first | omega | decide | rfl | exact hE e (by simp only [rdBody, shN, rdFs, rdF, Rs.bind, e0, ee]) _ _ rfl
  intro v1 r1 e1
  have q1 := leT e1
  and_intros <;> try first | omega | decide | rfl
  rotate_left
  ·intro e ee
   and_intros <;> try first | omega | decide | rfl | exact hE e (by simp only [rdBody, shN, rdFs, rdF, Rs.bind, e0, e1, ee]) _ _ rfl
  intro v2 r2 e2
  have q2 := leT e2
  have hz := fun c => hO [.s v0, .s v1, .s v2] [] r2 (by simp only [rdBody, shN, rdFs, rdF, Rs.bind, e0, e1, e2, rdLs, shE]) c
  and_intros <;> try first | omega | decide | rfl | exact hz _ (by repeat' (first | exact trivial | refine ⟨.inl rfl, ?_⟩ | refine ⟨.inr ⟨rfl, _, rfl⟩, ?_⟩))
 refine pIfD (fun hk => ?_) (fun n11 => ?_)
 ·clear k1 k2
  subst hk
  replace hO : OK_r 11 11 a w s Q := hO
  replace hE : ER_r 11 w s Q := hE
  and_intros <;> try first | omega | decide | rfl
  rotate_left
  ·intro e ee
   and_intros <;> try first | omega | decide | rfl | exact hE e (by simp only [rdBody, shN, rdFs, rdF, Rs.bind, ee]) _ _ rfl
  intro v0 r0 e0
  have q0 := leT e0
  and_intros <;> try first | omega | decide | rfl
  rotate_left
  ·intro e ee
   and_intros <;> try first | omega | decide | rfl | exact hE e (by simp only [rdBody, shN, rdFs, rdF, Rs.bind, e0, ee]) _ _ rfl
  intro v1 r1 e1
  have q1 := leT e1
  and_intros <;> try first | omega | decide | rfl
  rotate_left
  ·intro e ee
   and_intros <;> try first | omega | decide | rfl | exact hE e (by simp only [rdBody, shN, rdFs, rdF, Rs.bind, e0, e1, ee]) _ _ rfl
  intro v2 r2 e2
  have q2 := leT e2
  have hz := fun c => hO [.s v0, .s v1, .s v2] [] r2 (by simp only [rdBody, shN, rdFs, rdF, Rs.bind, e0, e1, e2, rdLs, shE]) c
  and_intros <;> try first | omega | decide | rfl | exact hz _ (by repeat' (first | exact trivial | refine ⟨.inl rfl, ?_⟩ | refine ⟨.inr ⟨rfl, _, rfl⟩, ?_⟩))
 refine pIfD (fun hk => ?_) (fun n10 => ?_)
 ·clear k1 k2
  subst hk
  replace hO : OK_r 10 10 a w s Q := hO
  replace hE : ER_r 10 w s Q := hE
  and_intros <;> try first | omega | decide | rfl
  rotate_left
  ·intro e ee
   and_intros <;> try first | omega | decide | rfl | exact hE e (by simp only [rdBody, shN, rdFs, rdF, Rs.bind, ee]) _ _ rfl
  intro v0 r0 e0
  have q0 := leT e0
  and_intros <;> try first | omega | decide | rfl
  rotate_left
  ·intro e ee
   and_intros <;> try first | omega | decide | rfl | exact hE e (by simp only [rdBody, shN, rdFs, rdF, Rs.bind, e0, ee]) _ _ rfl
  intro v1 r1 e1
  have q1 := leI e1
  and_intros <;> try first | omega | decide | rfl
  rotate_left
  ·intro e ee
   and_intros <;> try first | omega | decide | rfl | exact hE e (by simp only [rdBody, shN, rdFs, rdF, Rs.bind, e0, e1, ee]) _ _ rfl
  intro v2 r2 e2
  have q2 := leB e2
  have hz := fun c => hO [.s v0, .i v1, .b v2] [] r2 (by simp only [rdBody, shN, rdFs, rdF, Rs.bind, e0, e1, e2, rdLs, shE]) c
  cases v2 <;> refine pIf_intro (fun hb => ?_) (fun hb => ?_) <;> first | (cases hb; done) | skip
  all_goals
   and_intros <;> try first | omega | decide | rfl | exact hz _ (by repeat' (first | exact trivial | refine ⟨.inl rfl, ?_⟩ | refine ⟨.inr ⟨rfl, _, rfl⟩, ?_⟩))
 refine pIfD (fun hk => ?_) (fun n13 => ?_)
 ·clear k1 k2
  subst hk
  replace hO : OK_r 13 13 a w s Q := hO
  replace hE : ER_r 13 w s Q := hE
  and_intros <;> try first | omega | decide | rfl
  rotate_left
  ·intro e ee
   and_intros <;> try first | omega | decide | rfl | exact hE e (by simp only [rdBody, shN, rdFs, rdF, Rs.bind, ee]) _ _ rfl
  intro v0 r0 e0
  have q0 := leT e0
  and_intros <;> try first | omega | decide | rfl
  rotate_left
  ·intro e ee
   and_intros <;> try first | omega | decide | rfl | exact hE e (by simp only [rdBody, shN, rdFs, rdF, Rs.bind, e0, ee]) _ _ rfl
  intro v1 r1 e1
  have q1 := leI e1
  and_intros <;> try first | omega | decide | rfl
  rotate_left
  ·intro e ee
   and_intros <;> try first | omega | decide | rfl | exact hE e (by simp only [rdBody, shN, rdFs, rdF, Rs.bind, e0, e1, ee]) _ _ rfl
  intro v2 r2 e2
  have q2 := leI e2
  and_intros <;> try first | omega | decide | rfl
  rotate_left
  ·intro e ee
   and_intros <;> try first | omega | decide | rfl | exact hE e (by simp only [rdBody, shN, rdFs, rdF, Rs.bind, e0, e1, e2, ee]) _ _ rfl
  intro v3 r3 e3
  have q3 := leI e3
  and_intros <;> try first | omega | decide | rfl
  rotate_left
  ·intro e ee
   and_intros <;> try first | omega | decide | rfl | exact hE e (by simp only [rdBody, shN, rdFs, rdF, Rs.bind, e0, e1, e2, e3, ee]) _ _ rfl
  intro v4 r4 e4
  have q4 := leI e4
  and_intros <;> try first | omega | decide | rfl
  rotate_left
  ·intro e ee
   and_intros <;> try first | omega | decide | rfl | exact hE e (by simp only [rdBody, shN, rdFs, rdF, Rs.bind, e0, e1, e2, e3, e4, ee]) _ _ rfl
  intro v5 r5 e5
  have q5 := leI e5
  have hz := fun c => hO [.s v0, .i v1, .i v2, .i v3, .i v4, .i v5] [] r5 (by simp only [rdBody, shN, rdFs, rdF, Rs.bind, e0, e1, e2, e3, e4, e5, rdLs, shE]) c
  and_intros <;> try first | omega | decide | rfl | exact hz _ (by repeat' (first | exact trivial | refine ⟨.inl rfl, ?_⟩ | refine ⟨.inr ⟨rfl, _, rfl⟩, ?_⟩))
 refine pIfD (fun hk => ?_) (fun n14 => ?_)
 ·clear k1 k2
  subst hk
  replace hO : OK_r 14 14 a w s Q := hO
  replace hE : ER_r 14 w s Q := hE
  and_intros <;> try first | omega | decide | rfl
  rotate_left
  ·intro e ee
   and_intros <;> try first | omega | decide | rfl | exact hE e (by simp only [rdBody, shN, rdFs, rdF, Rs.bind, ee]) _ _ rfl
  intro v0 r0 e0
  have q0 := leT e0
  and_intros <;> try first | omega | decide | rfl
  rotate_left
  ·intro e ee
   and_intros <;> try first | omega | decide | rfl | exact hE e (by simp only [rdBody, shN, rdFs, rdF, Rs.bind, e0, rdLs, shE, ee]) _ _ rfl
  intro n rn en
  obtain ⟨qn, hn⟩ := leL en
  have hi : Int.ofNat n = (n : Int) := rfl
  have hz := fun es r (he : rdEs [.t, nF, nF, nF] n rn = .ok es r) c => hO [.s v0] es r (by simp only [rdBody, shN, rdFs, rdF, Rs.bind, e0, rdLs, shE, en, he]) c
  have hy := fun e (he : rdEs [.t, nF, nF, nF] n rn = .err e) c r => hE e (by simp only [rdBody, shN, rdFs, rdF, Rs.bind, e0, rdLs, shE, en, he]) c r
  refine pIfN (fun h0 => ?_) (fun h0 => ?_)
  ·have hk := rl14 14 a w 0 v0 n (by omega) (Post := Q) n 0 rn (zrow n [.string ⟨#[]⟩, .int .i64 0, .int .i64 0, .int .i64 0]) [] (by omega) rfl (by rw [zrow_len]; rfl) (NLs_zrow (fun v hv => List.all_eq_true.1 (show ([.string ⟨#[]⟩, .int .i64 0, .int .i64 0, .int .i64 0] : List Value).all nl1 = true from rfl) v hv) n) (by rw [Nat.zero_mul]; rfl) (by omega) (fun es r he => hz es r he _ (by repeat' (first | exact trivial | refine ⟨.inl rfl, ?_⟩ | refine ⟨.inr ⟨rfl, _, rfl⟩, ?_⟩))) hy
   and_intros <;> try first | omega | decide | rfl | exact NLs_zrow (fun v hv => List.all_eq_true.1 (show ([.string ⟨#[]⟩, .int .i64 0, .int .i64 0, .int .i64 0] : List Value).all nl1 = true from rfl) v hv) n | exact hk
  ·have h0 : n = 0 := by omega
   subst h0
   have hk := hz [] rn rfl
   refine ok_X callR_ok mixed [(19, [0, 1, 132, 133]), (31, [0, 1, 203, 204]), (55, [0, 1, 330, 331])] (z_rd14 14 a w 0 v0 rn _ _) ?_
   simp only [true_and, and_true]
   and_intros <;> try first | omega | decide | rfl | exact hk _ (by repeat' (first | exact trivial | refine ⟨.inl rfl, ?_⟩ | refine ⟨.inr ⟨rfl, _, rfl⟩, ?_⟩))
 refine pIfD (fun hk => ?_) (fun n15 => ?_)
 ·clear k1 k2
  subst hk
  replace hO : OK_r 15 15 a w s Q := hO
  replace hE : ER_r 15 w s Q := hE
  and_intros <;> try first | omega | decide | rfl
  rotate_left
  ·intro e ee
   and_intros <;> try first | omega | decide | rfl | exact hE e (by simp only [rdBody, shN, rdFs, rdF, Rs.bind, ee]) _ _ rfl
  intro v0 r0 e0
  have q0 := leT e0
  and_intros <;> try first | omega | decide | rfl
  rotate_left
  ·intro e ee
   and_intros <;> try first | omega | decide | rfl | exact hE e (by simp only [rdBody, shN, rdFs, rdF, Rs.bind, e0, ee]) _ _ rfl
  intro v1 r1 e1
  have q1 := leI e1
  and_intros <;> try first | omega | decide | rfl
  rotate_left
  ·intro e ee
   and_intros <;> try first | omega | decide | rfl | exact hE e (by simp only [rdBody, shN, rdFs, rdF, Rs.bind, e0, e1, ee]) _ _ rfl
  intro v2 r2 e2
  have q2 := leI e2
  and_intros <;> try first | omega | decide | rfl
  rotate_left
  ·intro e ee
   and_intros <;> try first | omega | decide | rfl | exact hE e (by simp only [rdBody, shN, rdFs, rdF, Rs.bind, e0, e1, e2, ee]) _ _ rfl
  intro v3 r3 e3
  have q3 := leI e3
  have hz := fun c => hO [.s v0, .i v1, .i v2, .i v3] [] r3 (by simp only [rdBody, shN, rdFs, rdF, Rs.bind, e0, e1, e2, e3, rdLs, shE]) c
  and_intros <;> try first | omega | decide | rfl | exact hz _ (by repeat' (first | exact trivial | refine ⟨.inl rfl, ?_⟩ | refine ⟨.inr ⟨rfl, _, rfl⟩, ?_⟩))
 have hz := fun c => hO [] [] s (by
  have : k = 17 ∨ k = 18 := by omega
  rcases this with rfl | rfl <;> rfl) c
 have hm : mkEv k a [] [] = { evt0 with kind := k, at_ := a } := by
  have : k = 17 ∨ k = 18 := by omega
  rcases this with rfl | rfl <;> rfl
 rw [hm] at hz
 and_intros <;> try first | omega | decide | rfl | exact hz _ (by repeat' (first | exact trivial | refine ⟨.inl rfl, ?_⟩ | refine ⟨.inr ⟨rfl, _, rfl⟩, ?_⟩))
theorem lax_get : ∀ {c c' : List Value}, lax c c' → c'.length = c.length ∧ ∀ (j : Nat) (u : Value), c'[j]? = some u → ∃ v, c[j]? = some v ∧ (v = u ∨ (v = nilS ∧ ∃ sz, u = tree sz 0 #[]))
 | [], [], _ => ⟨rfl, fun j u h => by simp at h⟩
 | [], _ :: _, h => h.elim
 | _ :: _, [], h => h.elim
 | a :: c, b :: c', h => by
  obtain ⟨g1, g2⟩ := lax_get h.2
  refine ⟨by simp [g1], fun j u hj => ?_⟩
  cases j with
  | zero =>
   simp only [List.getElem?_cons_zero, Option.some.injEq] at hj
   subst hj
   exact ⟨a, rfl, h.1⟩
  | succ j => exact g2 j u (by simpa using hj)
theorem outs_put {hp : Tr AObj} {i : Nat} {x : Option AObj} : ∀ {n j : Nat}, i < j → outs (hp.put i x) j n = outs hp j n
 | 0, j, _ => rfl
 | n + 1, j, h => by
  simp only [outs]
  rw [Tr.get_put, if_neg (by omega), outs_put (n := n) (j := j + 1) (by omega)]
theorem specX_lax {P : Program} {f : FuncId} {N : Nat} {hp : Tr AObj} {args : List Value} {Q Q' : Out → List (List Value) → Prop} (h : SpecX P f (N + 1) hp args (xpost (N + 1) Q))
  (hq : ∀ r ls, Q r ls → ∃ c c' rest, ls = c :: rest ∧ lax c c' ∧ Q' r (c' :: rest)) : SpecX P f (N + 1) hp args (xpost (N + 1) Q') := by
 intro W ρ w args' h1 h2 h3
 refine (h W ρ w args' h1 h2 h3).mono ?_
 rintro e w' ⟨r, hp', nx', ρ', g1, g2, g3, g4⟩
 unfold xpost at g1
 split at g1
 case h_2 => exact g1.elim
 rename_i ls hls
 obtain ⟨c, c', rest, rfl, hl, hQ⟩ := hq r ls g1.2
 obtain ⟨l1, l2⟩ := lax_get hl
 have hok := g1.1
 simp only [outs] at hls
 split at hls
 case h_2 => cases hls
 rename_i c0 hc0
 split at hls
 case h_2 => cases hls
 rename_i ls0 hls0
 cases hls
 refine ⟨r, hp'.put 0 (some (.cells c' true)), nx', ρ', ?_, g2, ?_, g4⟩
 ·unfold xpost
  have e : outs (hp'.put 0 (some (.cells c' true))) 0 (N + 1) = some (c' :: rest) := by
   simp only [outs]
   rw [Tr.get_put, if_pos rfl, outs_put (by omega), hls0]
  rw [e]
  refine ⟨?_, hQ⟩
  simp only [okAll, Bool.and_eq_true] at hok ⊢
  refine ⟨List.all_eq_true.2 fun v hv => ?_, hok.2⟩
  obtain ⟨j, hj, rfl⟩ := List.getElem_of_mem hv
  obtain ⟨v, hv1, hv2⟩ := l2 j _ (List.getElem?_eq_getElem hj)
  rcases hv2 with rfl | ⟨_, sz, e⟩
  ·exact List.all_eq_true.1 hok.1 _ (List.mem_of_getElem? hv1)
  ·rw [e]; rfl
 ·refine g3.recell hc0 l1 fun cc s z cs t fz hpl hcs j u hj => ?_
  obtain ⟨ob, e1, e2⟩ := g3.obj 0 _ cc s z hc0 hpl
  rw [hcs] at e1
  cases e1
  obtain ⟨k1, k2, k3, k4, k5⟩ := e2
  obtain ⟨v, hv1, hv2⟩ := l2 j u hj
  obtain ⟨v', q1, q2⟩ := k4 j v hv1
  refine ⟨v', q1, ?_⟩
  rcases hv2 with rfl | ⟨rfl, sz, rfl⟩
  ·exact q2
  ·have h0 : VR0 ρ'.fr nilS v' := nl1_sound rfl q2
   cases h0
   exact VR0.lift (ρ := ρ') (.treeNil sz none 0)
def allN : Nat → (List Value → Prop) → Prop
 | 0, P => P []
 | n + 1, P => ∀ v, allN n fun l => P (v :: l)
theorem allN_get : ∀ {n : Nat} {P : List Value → Prop}, allN n P → ∀ l, l.length = n → P l
 | 0, P, h, [], _ => h
 | n + 1, P, h, v :: l, hl => allN_get (P := fun l => P (v :: l)) (h v) l (by simpa using hl)
 | 0, _, _, _ :: _, hl => by cases hl
 | _ + 1, _, _, [], hl => by cases hl
def c_vr (args : List Value) (conts : List (List Value)) (Post : Out → List (List Value) → Prop) : Prop :=
 ∃ (k a w : Int) (s : ByteArray), args = argsR ∧ conts = [cells0 k a, [ptr2, .int .i64 w], [.string s, .int .i64 0]] ∧ 2 ≤ k ∧ k ≤ 18 ∧ s.size < 4611686018427387904 ∧
  (∀ vs es r, rdBody k.toNat s = .ok (vs, es) r → ∀ x, x = mkEv k a vs es → Post retU [eventC x, [ptr2, .int .i64 w], [.string r, .int .i64 0]]) ∧
  ∀ e, rdBody k.toNat s = .err e → ∀ r, allN 40 fun c => Post (panE e) [c, [ptr2, .int .i64 w], [.string r, .int .i64 (.ofNat (e + 1))]]
theorem lax_refl : ∀ c : List Value, lax c c
 | [] => trivial
 | _ :: c => ⟨.inl rfl, lax_refl c⟩
theorem ok_vr : XEntOk Tryz.prog ⟨22, c_vr⟩ := by
 rintro args conts Post ⟨k, a, w, s, rfl, rfl, k1, k2, hs, hO, hE⟩
 refine specX_lax (N := 2) (Q := fun r ls => ∃ c c' rest, ls = c :: rest ∧ lax c c' ∧ Post r (c' :: rest)) (vr_X k1 k2 hs (fun vs es r h c hc => ?_) (fun e h c r hc => ?_)) fun r ls h => h
 ·exact ⟨c, _, _, rfl, hc, hO vs es r h _ rfl⟩
 ·exact ⟨c, c, _, rfl, lax_refl c, allN_get (hE e h r) c hc⟩
def okF : Fd → Prop
 | .n lo hi => -4611686018427387904 ≤ lo ∧ hi ≤ 4611686018427387904
 | _ => True
theorem shN_ok : ∀ k, ∀ f ∈ shN k, okF f := by
 intro k
 unfold shN
 split <;> simp [okF]
theorem shE_ok {k m : Nat} {fs : List Fd} (h : shE k = some (m, fs)) : (∀ f ∈ fs, okF f) ∧ m < 18446744073709551616 := by
 unfold shE at h
 split at h <;> cases h <;> simp [okF]
theorem ftT {m : Nat} {s v r : ByteArray} (h : rsT m s = .ok v r) : v.size ≤ m := by
 obtain ⟨_, rfl, _⟩ := mkRs_ok h
 have := (rdHead_left 2 m true (s, 0)).2.1
 show ((rdHead 2 m true (s, 0)).2.1.extract 0 (rdHead 2 m true (s, 0)).1).size ≤ m
 rw [size_list, ext_list, List.drop_zero, List.length_take]
 omega
theorem ftI {lo hi v : Int} {s r : ByteArray} (h : rsI lo hi s = .ok v r) : lo ≤ v ∧ v ≤ hi := by
 obtain ⟨h0, rfl, _⟩ := mkRs_ok h
 revert h0
 unfold rdInt
 dsimp only
 split
 ·intro h; exact absurd rfl (by assumption)
 split
 ·intro h; exact absurd h (by assumption)
 split
 ·intro h; cases h
 generalize (if (pk s 0 1).1 = 1 then -1 - ((pk s 0 1).2.1 : Int) else ((pk s 0 1).2.1 : Int)) = y
 split
 ·intro h; cases h
 ·intro _; dsimp only; omega
theorem ftF {f : Fd} {v : Va} {s r : ByteArray} (h : rdF f s = .ok v r) : fit f v := by
 cases f <;> simp only [rdF, Rs.bind] at h <;> split at h <;> cases h <;> simp only [fit]
 ·exact ftT (by assumption)
 ·exact ftI (by assumption)
theorem ftFs : ∀ {fs : List Fd} {vs : List Va} {s r : ByteArray}, rdFs fs s = .ok vs r → fits fs vs
 | [], vs, s, r, h => by simp only [rdFs] at h; cases h; trivial
 | f :: fs, vs, s, r, h => by
  simp only [rdFs, Rs.bind] at h
  split at h
  ·rename_i v r1 h1
   split at h
   ·rename_i vs1 r2 h2
    cases h
    exact ⟨ftF h1, ftFs h2⟩
   ·cases h
  ·cases h
theorem ftEs {fs : List Fd} : ∀ {n : Nat} {es : List (List Va)} {s r : ByteArray}, rdEs fs n s = .ok es r → es.length = n ∧ ∀ v ∈ es, fits fs v
 | 0, es, s, r, h => by simp only [rdEs] at h; cases h; exact ⟨rfl, fun v hv => by simp at hv⟩
 | n + 1, es, s, r, h => by
  simp only [rdEs, Rs.bind] at h
  split at h
  ·rename_i v r1 h1
   split at h
   ·rename_i vs1 r2 h2
    cases h
    obtain ⟨g1, g2⟩ := ftEs h2
    refine ⟨by simp [g1], fun u hu => ?_⟩
    rcases List.mem_cons.1 hu with rfl | hu
    ·exact ftFs h1
    ·exact g2 u hu
   ·cases h
  ·cases h
theorem ftBody {k : Nat} {s r : ByteArray} {vs : List Va} {es : List (List Va)} (h : rdBody k s = .ok (vs, es) r) : fits (shN k) vs ∧ es.length ≤ 32 ∧ (∀ m fs, shE k = some (m, fs) → es.length ≤ m ∧ ∀ v ∈ es, fits fs v) ∧ (shE k = none → es = []) := by
 unfold rdBody Rs.bind at h
 split at h
 case h_2 => cases h
 rename_i vs1 r1 h1
 dsimp only at h
 split at h
 case h_2 => cases h
 rename_i es1 r2 h2
 cases h
 refine ⟨ftFs h1, ?_⟩
 unfold rdLs Rs.bind at h2
 split at h2
 ·rename_i hE
  cases h2
  exact ⟨by simp, fun m fs h => (by rw [hE] at h; cases h), fun _ => rfl⟩
 ·rename_i m fs hE
  split at h2
  case h_2 => cases h2
  rename_i n r3 h3
  obtain ⟨g1, g2⟩ := ftEs h2
  have hm : m ≤ 32 := by
   unfold shE at hE
   split at hE <;> cases hE <;> decide
  have := (leL h3).2
  exact ⟨by omega, fun m' fs' h => (by rw [hE] at h; cases h; exact ⟨by omega, g2⟩), fun h => (by rw [hE] at h; cases h)⟩
def Cut {α : Type} (f : ByteArray → Rs α) (b : ByteArray) : Prop := ∀ p t : ByteArray, b = p ++ t → t.size ≠ 0 → f p = .err 2
theorem ba_two {b c p t : ByteArray} (h : b ++ c = p ++ t) (ht : t.size ≠ 0) : (∃ q : ByteArray, q.size ≠ 0 ∧ b = p ++ q) ∨ ∃ q : ByteArray, p = b ++ q ∧ c = q ++ t := by
 have h' : b.data.toList ++ c.data.toList = p.data.toList ++ t.data.toList := by rw [← app_list, ← app_list, h]
 rcases List.append_eq_append_iff.1 h' with ⟨l, h1, h2⟩ | ⟨l, h1, h2⟩
 ·exact .inr ⟨str l, ba_ext (by rw [app_list, str_list]; exact h1), ba_ext (by rw [app_list, str_list]; exact h2)⟩
 ·by_cases hl : l = []
  ·subst hl
   refine .inr ⟨str [], ba_ext (by rw [app_list, str_list, h1, List.append_nil, List.append_nil]), ba_ext (by rw [app_list, str_list, h2]; rfl)⟩
  ·refine .inl ⟨str l, ?_, ba_ext (by rw [app_list, str_list]; exact h1)⟩
   rw [str_size]
   exact fun h => hl (List.eq_nil_of_length_eq_zero h)
theorem Cut.fin {α β : Type} {f : ByteArray → Rs α} {b : ByteArray} (h : Cut f b) (g : α → ByteArray → Rs β) : Cut (fun s => (f s).bind g) b := fun p t hp ht => by
 show (f p).bind g = _
 rw [h p t hp ht]
 rfl
theorem Cut.bind {α β : Type} {f : ByteArray → Rs α} {g : α → ByteArray → Rs β} {b c : ByteArray} {v : α} (h1 : Cut f b) (h2 : ∀ r, f (b ++ r) = .ok v r) (h3 : Cut (g v) c) : Cut (fun s => (f s).bind g) (b ++ c) := by
 intro p t h ht
 rcases ba_two h ht with ⟨q, hq, hb⟩ | ⟨q, rfl, hc⟩
 ·exact h1.fin g p q hb hq
 ·show (f (b ++ q)).bind g = _
  rw [h2 q]
  exact h3 q t hc ht
theorem Cut.nil {α : Type} (f : ByteArray → Rs α) : Cut f ⟨#[]⟩ := fun p t h ht => by
 have := congrArg ByteArray.size h
 rw [ba_size] at this
 have h0 : (⟨#[]⟩ : ByteArray).size = 0 := rfl
 omega
def rdX (k : Int) (s : ByteArray) : Rs Unit := if k = 1 then (rsT 1048576 s).bind fun _ r => .ok () r else (rdBody k.toNat s).bind fun _ r => .ok () r
structure GotB (s : ByteArray) (e : Nat) (b r : ByteArray) (e' : Nat) : Prop where
 le : r.size ≤ s.size
 ok : e' = 0 → e = 0 ∧ s = b ++ r
theorem GotB.trans {s b r c t : ByteArray} {e e1 e2 : Nat} (h : GotB s e b r e1) (g : GotB r e1 c t e2) : GotB s e (b ++ c) t e2 :=
 ⟨Nat.le_trans g.le h.le, fun h2 => by
  obtain ⟨h1, rfl⟩ := g.ok h2
  obtain ⟨h0, rfl⟩ := h.ok h1
  exact ⟨h0, by rw [ba_assoc]⟩⟩
theorem GotB.refl (s : ByteArray) (e : Nat) : GotB s e ⟨#[]⟩ s e := ⟨Nat.le_refl _, fun h => ⟨h, by rw [ba_nil]⟩⟩
theorem GotB.cast {s b c r : ByteArray} {e e1 : Nat} (h : GotB s e b r e1) (hb : b = c) : GotB s e c r e1 := hb ▸ h
theorem GotB.bad {s b c r : ByteArray} {e e1 : Nat} (h : GotB s e b r e1) (h1 : e1 ≠ 0) : GotB s e c r e1 := ⟨h.le, fun h0 => absurd h0 h1⟩
theorem yHead {kind most : Nat} {fl : Bool} {s : ByteArray} {e : Nat} : GotB s e (str (hd kind (rdHead kind most fl (s, e)).1)) (rdHead kind most fl (s, e)).2.1 (rdHead kind most fl (s, e)).2.2 := by
 refine ⟨(rdHead_left kind most fl (s, e)).1, fun h => ?_⟩
 unfold rdHead at *
 dsimp only at *
 split at h
 ·exact absurd h (by assumption)
 rename_i he
 rcases pk_cases s kind kind with ⟨e', he', hp⟩ | ⟨k, v, n, hp, h1, h2, h3, h4, h5, h6⟩
 ·rw [hp] at h
  dsimp only at h
  rw [if_pos (by omega)] at h
  dsimp only at h
  omega
 ·have hk : k = kind := by omega
  subst hk
  rw [if_neg he]
  rw [hp] at h ⊢
  dsimp only at *
  rw [if_neg (by decide)] at h ⊢
  split at h
  ·cases h
  rename_i hm
  rw [if_neg hm]
  split at h
  ·cases h
  rename_i hf
  rw [if_neg hf]
  exact ⟨by omega, h6⟩
theorem yText {m : Nat} {s : ByteArray} {e : Nat} : GotB s e (bText (rdText m (s, e)).1) (rdText m (s, e)).2.1 (rdText m (s, e)).2.2 ∧ (rdText m (s, e)).1.size ≤ m := by
 have h := yHead (kind := 2) (most := m) (fl := true) (s := s) (e := e)
 obtain ⟨k1, k2, k3⟩ := rdHead_left 2 m true (s, e)
 have k3 := k3 rfl
 have hs : ((rdHead 2 m true (s, e)).2.1.extract 0 (rdHead 2 m true (s, e)).1).size = (rdHead 2 m true (s, e)).1 := by
  rw [size_list, ext_list, List.drop_zero, List.length_take, size_list] at *
  omega
 unfold rdText
 dsimp only
 refine ⟨⟨?_, fun h0 => ?_⟩, by rw [hs]; exact k2⟩
 ·rw [ext_size]
  exact Nat.le_trans (Nat.sub_le _ _) k1
 ·obtain ⟨h1, h2⟩ := h.ok h0
  refine ⟨h1, ?_⟩
  conv => lhs; rw [h2]
  unfold bText
  rw [hs, ba_assoc, ← split_at]
theorem yInt {lo hi : Int} (hl : -9223372036854775808 ≤ lo) (hh : hi ≤ 9223372036854775807) {s : ByteArray} {e : Nat} : GotB s e (bInt (rdInt lo hi (s, e)).1) (rdInt lo hi (s, e)).2.1 (rdInt lo hi (s, e)).2.2 ∧ In64 (rdInt lo hi (s, e)).1 := by
 have z : In64 0 := by unfold In64; omega
 unfold rdInt
 dsimp only
 split
 ·rename_i h
  exact ⟨⟨Nat.le_refl _, fun h0 => absurd h0 h⟩, z⟩
 rename_i he
 rcases pk_cases s 0 1 with ⟨e', he', hp⟩ | ⟨k, v, n, hp, h1, h2, h3, h4, h5, h6⟩
 ·rw [hp]
  dsimp only
  rw [if_pos (by omega)]
  exact ⟨⟨Nat.le_refl _, fun h0 => by dsimp only at h0; omega⟩, z⟩
 ·rw [hp]
  dsimp only
  rw [if_neg (by decide)]
  split
  ·exact ⟨⟨Nat.le_refl _, fun h0 => by cases h0⟩, z⟩
  rename_i hv
  generalize hx : (if k = 1 then (-1 - (v : Int)) else (v : Int)) = x
  split
  ·exact ⟨⟨Nat.le_refl _, fun h0 => by cases h0⟩, z⟩
  rename_i hr
  dsimp only
  refine ⟨⟨by rw [ext_size]; exact Nat.sub_le _ _, fun _ => ⟨by omega, ?_⟩⟩, by unfold In64; omega⟩
  have : bInt x = str (hd k v) := by
   unfold bInt
   rcases h3 with rfl | rfl
   ·rw [if_neg (by decide)] at hx
    rw [if_neg (by omega), ← hx]
    rfl
   ·rw [if_pos rfl] at hx
    rw [if_pos (by omega), show (-1 - x).toNat = v by omega]
  rw [this]
  exact h6
def y_T (args : List Value) (conts : List (List Value)) (Post : Value → List (List Value) → Prop) : Prop := match args, conts with
 | [.pointer (some ⟨0, 0, none⟩), .int .i64 (.ofNat m)], [[.string s, .int .i64 (.ofNat e)]] => s.size < 4611686018427387904 ∧ m < 4611686018427387904 ∧ ∀ v r e', GotB s e (bText v) r e' → v.size ≤ m → Post (.string v) [[.string r, .int .i64 (.ofNat e')]]
 | _, _ => False
def y_I (args : List Value) (conts : List (List Value)) (Post : Value → List (List Value) → Prop) : Prop := match args, conts with
 | [.pointer (some ⟨0, 0, none⟩), .int .i64 lo, .int .i64 hi], [[.string s, .int .i64 (.ofNat e)]] => s.size < 4611686018427387904 ∧ -9223372036854775808 ≤ lo ∧ hi ≤ 9223372036854775807 ∧ ∀ v r e', GotB s e (bInt v) r e' → In64 v → Post (.int .i64 v) [[.string r, .int .i64 (.ofNat e')]]
 | _, _ => False
def y_L (args : List Value) (conts : List (List Value)) (Post : Value → List (List Value) → Prop) : Prop := match args, conts with
 | [.pointer (some ⟨0, 0, none⟩), .int .i64 (.ofNat m)], [[.string s, .int .i64 (.ofNat e)]] => s.size < 4611686018427387904 ∧ m < 4611686018427387904 ∧ ∀ v r e', GotB s e (bList v) r e' → v ≤ m → Post (.int .i64 (.ofNat v)) [[.string r, .int .i64 (.ofNat e')]]
 | _, _ => False
theorem ok_yI : IEntOk Tryz.prog ⟨78, y_I⟩ := by
 intro args conts Post h
 unfold y_I at h
 dsimp only at h
 split at h
 case h_2 => exact h.elim
 rename_i lo hi s e
 obtain ⟨hs, h1, h2, h⟩ := h
 obtain ⟨q1, q2⟩ := yInt h1 h2 (s := s) (e := e)
 exact ok_RInt _ _ _ ⟨s, e, lo, hi, rfl, rfl, hs, h _ _ _ q1 q2⟩
theorem ok_yL : IEntOk Tryz.prog ⟨146, y_L⟩ := by
 intro args conts Post h
 unfold y_L at h
 dsimp only at h
 split at h
 case h_2 => exact h.elim
 rename_i m s e
 obtain ⟨hs, hm, h⟩ := h
 refine spec_I (vc := callCt) callCt_ok mixed (by kernel_rfl) (by kernel_rfl) _ (e_cListR s (e : Nat) m _ _) ?_
 simp only [true_and, and_true]
 exact ⟨s, e, 4, m, false, rfl, rfl, hs, hm, h _ _ _ yHead (rdHead_left 4 m false (s, e)).2.1⟩
theorem ok_yT : IEntOk Tryz.prog ⟨147, y_T⟩ := by
 intro args conts Post h
 unfold y_T at h
 dsimp only at h
 split at h
 case h_2 => exact h.elim
 rename_i m s e
 obtain ⟨hs, hm, h⟩ := h
 have h : Post (.string (rdText m (s, e)).1) [stC (rdText m (s, e)).2] := h _ _ _ yText.1 yText.2
 refine spec_I (vc := callCt) callCt_ok mixed (by kernel_rfl) (by kernel_rfl) _ (e_cTextR s (e : Nat) m _ _) ?_
 simp only [true_and, and_true, pIf_iff, decide_eq_true_eq, decide_eq_false_iff_not, Int.toNat_natCast]
 obtain ⟨h1, h2, h3⟩ := rdHead_left 2 m true (s, e)
 refine ⟨s, e, 2, m, true, rfl, rfl, hs, hm, fun h0 => ?_, fun h0 => ?_⟩
 ·have h0 : (rdHead 2 m true (s, e)).1 = 0 := by omega
  unfold rdText at h
  simp only [h0, ext_all, ext_none] at h
  exact h
 ·exact ⟨⟨by omega, Nat.zero_le _, h3 rfl⟩, ⟨by omega, h3 rfl, Nat.le_refl _⟩, by decide, h⟩
def tabY : List IEnt := [⟨147, y_T⟩, ⟨146, y_L⟩, ⟨78, y_I⟩]
theorem tabY_ok : ∀ e ∈ tabY, IEntOk Tryz.prog e := by
 intro e he
 simp only [tabY, List.mem_cons, List.not_mem_nil, or_false] at he
 rcases he with rfl | rfl | rfl
 ·exact ok_yT
 ·exact ok_yL
 ·exact ok_yI
def callY : VCall := inlCall Tryz.prog [155, 157, 80, 152, 151] (itabCall tabY noCall) 3
theorem callY_ok : VCallOk Tryz.prog callY := inlCall_ok mixed (itabCall_ok tabY_ok noCall_ok) 3
theorem e_yCor (s : ByteArray) (e : Nat) (H : HT) (Post : PI) : vcI Tryz.prog callY 156 [(3, [0, 3, 6, 7])] [[.string s, .int .i64 (.ofNat e)]] [ptr0] H Post = (T2 (True ∧ true = true ∧ s.size < 4611686018427387904 ∧ 32 < 4611686018427387904 ∧ ∀ (v : Nat) (r : ByteArray) (e' : Nat), GotB s e (bList v) r e' → v ≤ 32 → 1 = 1 ∧ T2 ((NLs [vs r, vi (Int.ofNat e')] ∧ True) ∧ H (lpC Tryz.prog 156 3) (lpK Tryz.prog 156 3) (stV [(0, some (pt 0)), (3, some (nS)), (6, some (vi (Int.ofNat v))), (7, some (vi 0))] [(0, some (AObj.cells [vs r, vi (Int.ofNat e')] true))] 1)))) := by kernel_rfl
theorem l_yCor0 (s : ByteArray) (e : Nat) (n i : Int) (H : HT) (Post : PI) : vcLI Tryz.prog callY 156 [ptr0] [(3, [0, 3, 6, 7])] 1 3 (stV [(0, some ptr0), (3, some (.slice none 0 0)), (6, some (.int .i64 n)), (7, some (.int .i64 i))] [(0, some (.cells [.string s, .int .i64 (.ofNat e)] true))] 1) H Post = (True ∧ pIf (decide (i < n)) (T2 (True ∧ true = true ∧ s.size < 4611686018427387904 ∧ toI (vi (-9223372036854775808)) ≤ -9223372036854775808 ∧ toI (vi 9223372036854775807) ≤ 9223372036854775807 ∧ ∀ (v : Int) (r : ByteArray) (e' : Nat), GotB s e (bInt v) r e' → -9223372036854775808 ≤ v ∧ v < 9223372036854775808 → 1 = 1 ∧ T4 (T2 (True ∧ true = true ∧ r.size < 4611686018427387904 ∧ toI (vi (-9223372036854775808)) ≤ -9223372036854775808 ∧ toI (vi 9223372036854775807) ≤ 9223372036854775807 ∧ ∀ (v_1 : Int) (r_1 : ByteArray) (e'_1 : Nat), GotB r e' (bInt v_1) r_1 e'_1 → -9223372036854775808 ≤ v_1 ∧ v_1 < 9223372036854775808 → 1 = 1 ∧ T2 (True ∧ 2 ≤ 2 ∧ 1 ≤ 33554432 ∧ true = true ∧ 2 = 2 ∧ T4 ((NLs [vs r_1, vi (Int.ofNat e'_1)] ∧ NLs [vi v, vi v_1] ∧ True) ∧ H (lpC Tryz.prog 156 3) (lpK Tryz.prog 156 3) (stV [(0, some (pt 0)), (3, some (Value.slice (some (Addr.mk 1 0 none)) 1 2)), (6, some (vi n)), (7, some (vi (IntKind.wrap IntKind.i64 (i + 1))))] [(0, some (AObj.cells [vs r_1, vi (Int.ofNat e'_1)] true)), (1, some (AObj.cells [vi v, vi v_1] true))] 2))))))) (T2 (True ∧ true = true ∧ Post (tree 2 0 #[]) [[vs s, vi (Int.ofNat e)]]))) := by kernel_rfl
theorem l_yCor1 (s : ByteArray) (e k : Nat) (n i : Int) (l : List Value) (H : HT) (Post : PI) : vcLI Tryz.prog callY 156 [ptr0] [(3, [0, 3, 6, 7])] 1 3 (stV [(0, some ptr0), (3, some (.slice (some ⟨1, 0, none⟩) k 2)), (6, some (.int .i64 n)), (7, some (.int .i64 i))] [(0, some (.cells [.string s, .int .i64 (.ofNat e)] true)), (1, some (.cells l true))] 2) H Post = (True ∧ pIf (decide (i < n)) (T2 (True ∧ true = true ∧ s.size < 4611686018427387904 ∧ toI (vi (-9223372036854775808)) ≤ -9223372036854775808 ∧ toI (vi 9223372036854775807) ≤ 9223372036854775807 ∧ ∀ (v : Int) (r : ByteArray) (e' : Nat), GotB s e (bInt v) r e' → -9223372036854775808 ≤ v ∧ v < 9223372036854775808 → 1 = 1 ∧ T4 (T2 (True ∧ true = true ∧ r.size < 4611686018427387904 ∧ toI (vi (-9223372036854775808)) ≤ -9223372036854775808 ∧ toI (vi 9223372036854775807) ≤ 9223372036854775807 ∧ ∀ (v_1 : Int) (r_1 : ByteArray) (e'_1 : Nat), GotB r e' (bInt v_1) r_1 e'_1 → -9223372036854775808 ≤ v_1 ∧ v_1 < 9223372036854775808 → 1 = 1 ∧ T2 (True ∧ 2 ≤ 2 ∧ k + 1 ≤ 33554432 ∧ true = true ∧ 2 = 2 ∧ 0 + k * 2 = List.length l ∧ T4 ((NLs [vs r_1, vi (Int.ofNat e'_1)] ∧ NLs (l ++ [vi v, vi v_1]) ∧ True) ∧ H (lpC Tryz.prog 156 3) (lpK Tryz.prog 156 3) (stV [(0, some (pt 0)), (3, some (Value.slice (some (Addr.mk 1 0 none)) (k + 1) 2)), (6, some (vi n)), (7, some (vi (IntKind.wrap IntKind.i64 (i + 1))))] [(0, some (AObj.cells [vs r_1, vi (Int.ofNat e'_1)] true)), (1, some (AObj.cells (l ++ [vi v, vi v_1]) true))] 2))))))) (T2 ((0 + k * 2 ≤ List.length l ∧ NLs l) ∧ true = true ∧ Post (tree 2 k (chunks 2 k (List.drop 0 l))) [[vs s, vi (Int.ofNat e)]]))) := by kernel_rfl
theorem yNls2 (v : Value) (w : Value) (hv : nl1 v = true) (hw : nl1 w = true) : NLs [v, w] := by
 intro u hu
 simp at hu
 rcases hu with rfl | rfl
 ·exact hv
 ·exact hw
theorem ySnoc {l : List Value} {v : Value} (h : NLs l) (hv : nl1 v = true) : NLs (l ++ [v]) := by
 intro u hu
 rcases List.mem_append.1 hu with hu | hu
 ·exact h u hu
 ·simp at hu; subst hu; exact hv
theorem ySnoc2 {l m : List Value} (h : NLs l) (hm : NLs m) : NLs (l ++ m) := fun u hu => (List.mem_append.1 hu).elim (h u) (hm u)
def accV (b : Nat) {α : Type} [Enc α] (l : List α) : Value := if l.length = 0 then .slice none 0 0 else .slice (some ⟨b, 0, none⟩) l.length (Enc.sz α)
def accH (b : Nat) {α : Type} [Enc α] (l : List α) : List (Nat × Option AObj) := if l.length = 0 then [] else [(b, some (.cells (rowC l) true))]
def accN (b : Nat) {α : Type} (l : List α) : Nat := if l.length = 0 then b else b + 1
theorem mem_snoc {α : Type} {P : α → Prop} {l : List α} {a : α} (h : ∀ x ∈ l, P x) (ha : P a) : ∀ x ∈ l ++ [a], P x := fun x hx => by
 rcases List.mem_append.1 hx with hx | hx
 ·exact h x hx
 ·simp at hx; subst hx; exact ha
abbrev bPtsN (n : Nat) (l : List Pt) : ByteArray := l.foldl (fun s p => s ++ (bInt p.x ++ bInt p.y)) (bList n)
abbrev OkYC (Post : Value → List (List Value) → Prop) (st : AS) : Prop := OkI Tryz.prog 156 [ptr0] 1 Post (lpC Tryz.prog 156 3) (lpK Tryz.prog 156 3) st
theorem yCor_loop (Post : Value → List (List Value) → Prop) (s0 : ByteArray) (e0 n : Nat) (hn : n ≤ 32) (h : ∀ l r e, GotB s0 e0 (bPts l) r e → l.length ≤ 32 → (∀ x ∈ l, InPt x) → Post (trPt l) [[.string r, .int .i64 (.ofNat e)]]) : ∀ (j i : Nat) (s : ByteArray) (e : Nat) (l : List Pt), i + j = n → l.length = i → s.size < 4611686018427387904 → GotB s0 e0 (bPtsN n l) s e → (∀ x ∈ l, InPt x) →
  OkYC Post (stV [(0, some ptr0), (3, some (accV 1 l)), (6, some (.int .i64 n)), (7, some (.int .i64 i))] ((0, some (.cells [.string s, .int .i64 (.ofNat e)] true)) :: accH 1 l) (accN 1 l)) := by
 intro j
 induction j with
 | zero =>
  intro i s e l hi hl hs hr hin
  have h := h l s e (by unfold bPts; rw [show l.length = n by omega]; exact hr) (by omega) hin
  unfold accV accH accN
  by_cases h0 : l.length = 0
  ·rw [if_pos h0, if_pos h0, if_pos h0]
   refine ok_I (vc := callY) callY_ok mixed _ (l_yCor0 s e n i _ _) ?_
   simp only [true_and, and_true, pIf_iff, decide_eq_true_eq, decide_eq_false_iff_not]
   rw [List.eq_nil_of_length_eq_zero h0] at h
   exact ⟨fun h' => by omega, fun _ => h⟩
  ·rw [if_neg h0, if_neg h0, if_neg h0]
   refine ok_I (vc := callY) callY_ok mixed _ (l_yCor1 s e l.length n i (rowC l) _ _) ?_
   simp only [true_and, and_true, pIf_iff, decide_eq_true_eq, decide_eq_false_iff_not]
   refine ⟨fun h' => by omega, fun _ => ⟨⟨by rw [rowC_len, Nat.zero_add]; exact Nat.le_refl _, rowC_nls l⟩, ?_⟩⟩
   have := chunks_row l
   rw [List.drop_zero, show chunks 2 l.length (rowC l) = encL l from this]
   exact h
 | succ j ih =>
  intro i s e l hi hl hs hr hin
  have nx := fun a s1 e1 (r1 : GotB s e (bInt a) s1 e1) (i1 : In64 a) b s2 e2 (r2 : GotB s1 e1 (bInt b) s2 e2) (i2 : In64 b) => ih (i + 1) s2 e2 (l ++ [⟨a, b⟩]) (by omega) (by simp [hl]) (Nat.lt_of_le_of_lt (Nat.le_trans r2.le r1.le) hs) (by unfold bPtsN; rw [List.foldl_append]; exact hr.trans (r1.trans r2)) (mem_snoc hin ⟨i1, i2⟩)
  unfold accV accH accN at nx ⊢
  simp only [List.length_append, List.length_cons, List.length_nil, Nat.zero_add, Nat.add_eq_zero_iff, Nat.one_ne_zero, and_false, if_false, rowC_snoc] at nx
  by_cases h0 : l.length = 0
  ·rw [if_pos h0, if_pos h0, if_pos h0]
   refine ok_I (vc := callY) callY_ok mixed _ (l_yCor0 s e n i _ _) ?_
   simp only [true_and, and_true, pIf_iff, decide_eq_true_eq, decide_eq_false_iff_not]
   have hl0 := List.eq_nil_of_length_eq_zero h0
   subst hl0
   rw [wrapSucc (by omega)]
   refine ⟨fun _ => ⟨hs, by decide, by decide, fun a s1 e1 r1 i1 => ⟨Nat.lt_of_le_of_lt r1.le hs, by decide, by decide, fun b s2 e2 r2 i2 => by and_intros <;> first | omega | decide | rfl | exact yNls2 _ _ rfl rfl | exact nx a s1 e1 r1 i1 b s2 e2 r2 i2⟩⟩, fun h' => by omega⟩
  ·rw [if_neg h0, if_neg h0, if_neg h0]
   refine ok_I (vc := callY) callY_ok mixed _ (l_yCor1 s e l.length n i (rowC l) _ _) ?_
   simp only [true_and, and_true, pIf_iff, decide_eq_true_eq, decide_eq_false_iff_not]
   rw [wrapSucc (by omega)]
   refine ⟨fun _ => ⟨hs, by decide, by decide, fun a s1 e1 r1 i1 => ⟨Nat.lt_of_le_of_lt r1.le hs, by decide, by decide, fun b s2 e2 r2 i2 => by and_intros <;> first | omega | decide | rfl | exact yNls2 _ _ rfl rfl | exact ySnoc2 (rowC_nls l) (yNls2 _ _ rfl rfl) | (rw [rowC_len, Nat.zero_add]; rfl) | exact nx a s1 e1 r1 i1 b s2 e2 r2 i2⟩⟩, fun h' => by omega⟩
def y_C (args : List Value) (conts : List (List Value)) (Post : Value → List (List Value) → Prop) : Prop := match args, conts with
 | [.pointer (some ⟨0, 0, none⟩)], [[.string s, .int .i64 (.ofNat e)]] => s.size < 4611686018427387904 ∧ ∀ l r e', GotB s e (bPts l) r e' → l.length ≤ 32 → (∀ x ∈ l, InPt x) → Post (trPt l) [[.string r, .int .i64 (.ofNat e')]]
 | _, _ => False
theorem ok_yC : IEntOk Tryz.prog ⟨156, y_C⟩ := by
 intro args conts Post h
 unfold y_C at h
 dsimp only at h
 split at h
 case h_2 => exact h.elim
 rename_i s e
 obtain ⟨hs, h⟩ := h
 refine spec_I (vc := callY) callY_ok mixed (by kernel_rfl) (by kernel_rfl) _ (e_yCor s e _ _) ?_
 simp only [true_and, and_true]
 refine ⟨hs, by decide, fun n r e1 r1 h1 => ⟨yNls2 _ _ rfl rfl, ?_⟩⟩
 exact yCor_loop Post s e n h1 h n 0 r e1 [] (Nat.zero_add _) rfl (Nat.lt_of_le_of_lt r1.le hs) r1 (fun x hx => by cases hx)
def callYp : VCall := inlCall Tryz.prog [155, 157, 80] (itabCall (⟨156, y_C⟩ :: tabY) noCall) 3
theorem callYp_ok : VCallOk Tryz.prog callYp := inlCall_ok mixed (itabCall_ok (by
 intro e he
 rcases List.mem_cons.1 he with rfl | he
 ·exact ok_yC
 ·exact tabY_ok e he) noCall_ok) 3
theorem e_yPart (s : ByteArray) (e : Nat) (H : HT) (Post : PI) : vcI Tryz.prog callYp 153 [(10, [0, 2, 3, 27, 28])] [[.string s, .int .i64 (.ofNat e)]] [ptr0] H Post = (T2 (True ∧ true = true ∧ s.size < 4611686018427387904 ∧ 64 < 4611686018427387904 ∧ ∀ (v r : ByteArray) (e' : Nat), GotB s e (bText v) r e' → v.size ≤ 64 → 1 = 1 ∧ True ∧ 1 ≤ 18 ∧ T2 (True ∧ true = true ∧ r.size < 4611686018427387904 ∧ toI (vi (-9223372036854775808)) ≤ -9223372036854775808 ∧ toI (vi 9223372036854775807) ≤ 9223372036854775807 ∧ ∀ (v_1 : Int) (r_1 : ByteArray) (e'_1 : Nat), GotB r e' (bInt v_1) r_1 e'_1 → -9223372036854775808 ≤ v_1 ∧ v_1 < 9223372036854775808 → 1 = 1 ∧ T2 (2 ≤ 18 ∧ T2 (True ∧ true = true ∧ r_1.size < 4611686018427387904 ∧ toI (vi (-9223372036854775808)) ≤ -9223372036854775808 ∧ toI (vi 9223372036854775807) ≤ 9223372036854775807 ∧ ∀ (v_2 : Int) (r : ByteArray) (e' : Nat), GotB r_1 e'_1 (bInt v_2) r e' → -9223372036854775808 ≤ v_2 ∧ v_2 < 9223372036854775808 → 1 = 1 ∧ T2 (3 ≤ 18 ∧ True ∧ true = true ∧ r.size < 4611686018427387904 ∧ 64 < 4611686018427387904 ∧ ∀ (v_3 r_2 : ByteArray) (e'_2 : Nat), GotB r e' (bText v_3) r_2 e'_2 → v_3.size ≤ 64 → 1 = 1 ∧ True ∧ 4 ≤ 18 ∧ True ∧ true = true ∧ r_2.size < 4611686018427387904 ∧ 16 < 4611686018427387904 ∧ ∀ (v_4 r : ByteArray) (e' : Nat), GotB r_2 e'_2 (bText v_4) r e' → v_4.size ≤ 16 → 1 = 1 ∧ True ∧ 5 ≤ 18 ∧ T2 (True ∧ true = true ∧ r.size < 4611686018427387904 ∧ toI (vi (-9223372036854775808)) ≤ -9223372036854775808 ∧ toI (vi 9223372036854775807) ≤ 9223372036854775807 ∧ ∀ (v_5 : Int) (r_3 : ByteArray) (e'_3 : Nat), GotB r e' (bInt v_5) r_3 e'_3 → -9223372036854775808 ≤ v_5 ∧ v_5 < 9223372036854775808 → 1 = 1 ∧ T2 (6 ≤ 18 ∧ True ∧ true = true ∧ r_3.size < 4611686018427387904 ∧ ∀ (l : List Pt) (r : ByteArray) (e' : Nat), GotB r_3 e'_3 (bPts l) r e' → List.length l ≤ 32 → (∀ (x : Pt), x ∈ l → (-9223372036854775808 ≤ x.x ∧ x.x < 9223372036854775808) ∧ -9223372036854775808 ≤ x.y ∧ x.y < 9223372036854775808) → 1 = 1 ∧ T2 (7 ≤ 18 ∧ True ∧ true = true ∧ r.size < 4611686018427387904 ∧ 8 < 4611686018427387904 ∧ ∀ (v_6 : Nat) (r_4 : ByteArray) (e'_4 : Nat), GotB r e' (bList v_6) r_4 e'_4 → v_6 ≤ 8 → 1 = 1 ∧ T2 ((NLs [vs r_4, vi (Int.ofNat e'_4)] ∧ T2 (True)) ∧ H (lpC Tryz.prog 153 10) (lpK Tryz.prog 153 10) (stV [(0, some (pt 0)), (2, some (pt 1)), (3, some (pt 2)), (27, some (vi (Int.ofNat v_6))), (28, some (vi 0))] [(0, some (AObj.cells [vs r_4, vi (Int.ofNat e'_4)] true)), (1, some (AObj.cells [vz, vi 0, vi 0, vz, vz, vi 0, nS, nS, vz, vi 0, vi 0, vi 0, vi 0, vi 0, vi 0, vi 0, vi 0, vi 0] true)), (2, some (AObj.cells [vs v, vi v_1, vi v_2, vs v_3, vs v_4, vi v_5, tree 2 l.length (encL l), nS, vz, vi 0, vi 0, vi 0, vi 0, vi 0, vi 0, vi 0, vi 0, vi 0] true))] 3))))))))))) := by kernel_rfl
theorem l_yPart0 (s : ByteArray) (e : Nat) (n i : Int) (id node grade : ByteArray) (rev kind thick : Int) (no : Nat) (oA : Array Value) (H : HT) (Post : PI) : vcLI Tryz.prog callYp 153 [ptr0] [(10, [0, 2, 3, 27, 28])] 1 10 (stV [(0, some ptr0), (2, some (.pointer (some ⟨1, 0, none⟩))), (3, some (.pointer (some ⟨2, 0, none⟩))), (27, some (.int .i64 n)), (28, some (.int .i64 i))] [(0, some (.cells [.string s, .int .i64 (.ofNat e)] true)), (1, some (.cells [.string ⟨#[]⟩, .int .i64 0, .int .i64 0, .string ⟨#[]⟩, .string ⟨#[]⟩, .int .i64 0, .slice none 0 0, .slice none 0 0, .string ⟨#[]⟩, .int .i64 0, .int .i64 0, .int .i64 0, .int .i64 0, .int .i64 0, .int .i64 0, .int .i64 0, .int .i64 0, .int .i64 0] true)), (2, some (.cells [.string id, .int .i64 rev, .int .i64 kind, .string node, .string grade, .int .i64 thick, tree 2 no oA, .slice none 0 0, .string ⟨#[]⟩, .int .i64 0, .int .i64 0, .int .i64 0, .int .i64 0, .int .i64 0, .int .i64 0, .int .i64 0, .int .i64 0, .int .i64 0] true))] 3) H Post = (let q2 := vi 9223372036854775807; let q1 := vi (-9223372036854775808); True ∧ pIf (decide (i < n)) (T4 (true = true ∧ s.size < 4611686018427387904 ∧ ∀ (l : List Pt) (r : ByteArray) (e' : Nat), GotB s e (bPts l) r e' → List.length l ≤ 32 → (∀ (x : Pt), x ∈ l → (-9223372036854775808 ≤ x.x ∧ x.x < 9223372036854775808) ∧ -9223372036854775808 ≤ x.y ∧ x.y < 9223372036854775808) → 1 = 1 ∧ ((nS = nS ∧ True) ∧ True) ∧ True ∧ 1 ≤ 1 ∧ 1 ≤ 33554432 ∧ true = true ∧ 1 = 1 ∧ T2 (True ∧ 8 ≤ 18 ∧ T4 ((NLs [vs r, vi (Int.ofNat e')] ∧ T2 (NLs [tree 2 l.length (encL l)] ∧ True)) ∧ H (lpC Tryz.prog 153 10) (lpK Tryz.prog 153 10) (stV [(0, some (pt 0)), (2, some (pt 1)), (3, some (pt 2)), (27, some (vi n)), (28, some (vi (IntKind.wrap IntKind.i64 (i + 1))))] [(0, some (AObj.cells [vs r, vi (Int.ofNat e')] true)), (1, some (AObj.cells [vz, vi 0, vi 0, vz, vz, vi 0, nS, nS, vz, vi 0, vi 0, vi 0, vi 0, vi 0, vi 0, vi 0, vi 0, vi 0] true)), (2, some (AObj.cells [vs id, vi rev, vi kind, vs node, vs grade, vi thick, tree 2 no oA, Value.slice (some (Addr.mk 3 0 none)) 1 1, vz, vi 0, vi 0, vi 0, vi 0, vi 0, vi 0, vi 0, vi 0, vi 0] true)), (3, some (AObj.cells [tree 2 l.length (encL l)] true))] 4))))) (True ∧ true = true ∧ s.size < 4611686018427387904 ∧ 16 < 4611686018427387904 ∧ ∀ (v r : ByteArray) (e' : Nat), GotB s e (bText v) r e' → v.size ≤ 16 → 1 = 1 ∧ True ∧ 9 ≤ 18 ∧ T2 (True ∧ true = true ∧ r.size < 4611686018427387904 ∧ toI q1 ≤ -9223372036854775808 ∧ toI q2 ≤ 9223372036854775807 ∧ ∀ (v_1 : Int) (r_1 : ByteArray) (e'_1 : Nat), GotB r e' (bInt v_1) r_1 e'_1 → -9223372036854775808 ≤ v_1 ∧ v_1 < 9223372036854775808 → 1 = 1 ∧ T2 (10 ≤ 18 ∧ T2 (True ∧ true = true ∧ r_1.size < 4611686018427387904 ∧ toI q1 ≤ -9223372036854775808 ∧ toI q2 ≤ 9223372036854775807 ∧ ∀ (v_2 : Int) (r : ByteArray) (e' : Nat), GotB r_1 e'_1 (bInt v_2) r e' → -9223372036854775808 ≤ v_2 ∧ v_2 < 9223372036854775808 → 1 = 1 ∧ T2 (11 ≤ 18 ∧ T4 (True ∧ true = true ∧ r.size < 4611686018427387904 ∧ toI q1 ≤ -9223372036854775808 ∧ toI q2 ≤ 9223372036854775807 ∧ ∀ (v_3 : Int) (r_2 : ByteArray) (e'_2 : Nat), GotB r e' (bInt v_3) r_2 e'_2 → -9223372036854775808 ≤ v_3 ∧ v_3 < 9223372036854775808 → 1 = 1 ∧ T4 (True ∧ true = true ∧ r_2.size < 4611686018427387904 ∧ toI q1 ≤ -9223372036854775808 ∧ toI q2 ≤ 9223372036854775807 ∧ ∀ (v_4 : Int) (r : ByteArray) (e' : Nat), GotB r_2 e'_2 (bInt v_4) r e' → -9223372036854775808 ≤ v_4 ∧ v_4 < 9223372036854775808 → 1 = 1 ∧ T4 (T2 (True ∧ true = true ∧ r.size < 4611686018427387904 ∧ toI q1 ≤ -9223372036854775808 ∧ toI q2 ≤ 9223372036854775807 ∧ ∀ (v_5 : Int) (r_3 : ByteArray) (e'_3 : Nat), GotB r e' (bInt v_5) r_3 e'_3 → -9223372036854775808 ≤ v_5 ∧ v_5 < 9223372036854775808 → 1 = 1 ∧ T2 (3 ≤ 3 ∧ True ∧ 14 ≤ 18 ∧ T4 (True ∧ true = true ∧ r_3.size < 4611686018427387904 ∧ toI q1 ≤ -9223372036854775808 ∧ toI q2 ≤ 9223372036854775807 ∧ ∀ (v_6 : Int) (r : ByteArray) (e' : Nat), GotB r_3 e'_3 (bInt v_6) r e' → -9223372036854775808 ≤ v_6 ∧ v_6 < 9223372036854775808 → 1 = 1 ∧ T4 (True ∧ true = true ∧ r.size < 4611686018427387904 ∧ toI q1 ≤ -9223372036854775808 ∧ toI q2 ≤ 9223372036854775807 ∧ ∀ (v_7 : Int) (r_4 : ByteArray) (e'_4 : Nat), GotB r e' (bInt v_7) r_4 e'_4 → -9223372036854775808 ≤ v_7 ∧ v_7 < 9223372036854775808 → 1 = 1 ∧ T4 (T2 (True ∧ true = true ∧ r_4.size < 4611686018427387904 ∧ toI q1 ≤ -9223372036854775808 ∧ toI q2 ≤ 9223372036854775807 ∧ ∀ (v_8 : Int) (r : ByteArray) (e' : Nat), GotB r_4 e'_4 (bInt v_8) r e' → -9223372036854775808 ≤ v_8 ∧ v_8 < 9223372036854775808 → 1 = 1 ∧ T2 (3 ≤ 3 ∧ T2 (17 ≤ 18 ∧ T2 (True ∧ true = true ∧ r.size < 4611686018427387904 ∧ toI q1 ≤ -9223372036854775808 ∧ toI q2 ≤ 9223372036854775807 ∧ ∀ (v_9 : Int) (r_5 : ByteArray) (e'_5 : Nat), GotB r e' (bInt v_9) r_5 e'_5 → -9223372036854775808 ≤ v_9 ∧ v_9 < 9223372036854775808 → 1 = 1 ∧ T2 (True ∧ 18 ≤ 18 ∧ T8 (T2 (True ∧ pIf (!decide (Int.ofNat e'_5 = 0)) (True ∧ 18 ≤ 18 ∧ (T16 (T2 (True))) ∧ true = true ∧ Post (Value.agg #[vz, vi 0, vi 0, vz, vz, vi 0, tree 2 0 #[], tree 1 0 #[], vz, vi 0, vi 0, vi 0, vi 0, vi 0, vi 0, vi 0, vi 0, vi 0]) [[vs r_5, vi (Int.ofNat e'_5)]]) (True ∧ 18 ≤ 18 ∧ (T16 (T2 (True))) ∧ true = true ∧ Post (Value.agg #[vs id, vi rev, vi kind, vs node, vs grade, vi thick, tree 2 no oA, tree 1 0 #[], vs v, vi v_1, vi v_2, vi v_3, vi v_4, vi v_5, vi v_6, vi v_7, vi v_8, vi v_9]) [[vs r_5, vi (Int.ofNat e'_5)]])))))))))))))))))))))) := by kernel_rfl
theorem l_yPart1 (s : ByteArray) (e : Nat) (n i : Int) (id node grade : ByteArray) (rev kind thick : Int) (no : Nat) (oA : Array Value) (k : Nat) (l : List Value) (H : HT) (Post : PI) : vcLI Tryz.prog callYp 153 [ptr0] [(10, [0, 2, 3, 27, 28])] 1 10 (stV [(0, some ptr0), (2, some (.pointer (some ⟨1, 0, none⟩))), (3, some (.pointer (some ⟨2, 0, none⟩))), (27, some (.int .i64 n)), (28, some (.int .i64 i))] [(0, some (.cells [.string s, .int .i64 (.ofNat e)] true)), (1, some (.cells [.string ⟨#[]⟩, .int .i64 0, .int .i64 0, .string ⟨#[]⟩, .string ⟨#[]⟩, .int .i64 0, .slice none 0 0, .slice none 0 0, .string ⟨#[]⟩, .int .i64 0, .int .i64 0, .int .i64 0, .int .i64 0, .int .i64 0, .int .i64 0, .int .i64 0, .int .i64 0, .int .i64 0] true)), (2, some (.cells [.string id, .int .i64 rev, .int .i64 kind, .string node, .string grade, .int .i64 thick, tree 2 no oA, .slice (some ⟨3, 0, none⟩) k 1, .string ⟨#[]⟩, .int .i64 0, .int .i64 0, .int .i64 0, .int .i64 0, .int .i64 0, .int .i64 0, .int .i64 0, .int .i64 0, .int .i64 0] true)), (3, some (.cells l true))] 4) H Post = (let q2 := vi 9223372036854775807; let q1 := vi (-9223372036854775808); True ∧ pIf (decide (i < n)) (T4 (true = true ∧ s.size < 4611686018427387904 ∧ ∀ (l_1 : List Pt) (r : ByteArray) (e' : Nat), GotB s e (bPts l_1) r e' → List.length l_1 ≤ 32 → (∀ (x : Pt), x ∈ l_1 → (-9223372036854775808 ≤ x.x ∧ x.x < 9223372036854775808) ∧ -9223372036854775808 ≤ x.y ∧ x.y < 9223372036854775808) → 1 = 1 ∧ ((Value.slice (some (Addr.mk 3 0 none)) k 1 = Value.slice (some (Addr.mk 3 0 none)) k 1 ∧ True) ∧ True) ∧ True ∧ 1 ≤ 1 ∧ k + 1 ≤ 33554432 ∧ true = true ∧ 1 = 1 ∧ 0 + k * 1 = List.length l ∧ T2 (True ∧ 8 ≤ 18 ∧ T4 ((NLs [vs r, vi (Int.ofNat e')] ∧ T2 (NLs (l ++ [tree 2 l_1.length (encL l_1)]) ∧ True)) ∧ H (lpC Tryz.prog 153 10) (lpK Tryz.prog 153 10) (stV [(0, some (pt 0)), (2, some (pt 1)), (3, some (pt 2)), (27, some (vi n)), (28, some (vi (IntKind.wrap IntKind.i64 (i + 1))))] [(0, some (AObj.cells [vs r, vi (Int.ofNat e')] true)), (1, some (AObj.cells [vz, vi 0, vi 0, vz, vz, vi 0, nS, nS, vz, vi 0, vi 0, vi 0, vi 0, vi 0, vi 0, vi 0, vi 0, vi 0] true)), (2, some (AObj.cells [vs id, vi rev, vi kind, vs node, vs grade, vi thick, tree 2 no oA, Value.slice (some (Addr.mk 3 0 none)) (k + 1) 1, vz, vi 0, vi 0, vi 0, vi 0, vi 0, vi 0, vi 0, vi 0, vi 0] true)), (3, some (AObj.cells (l ++ [tree 2 l_1.length (encL l_1)]) true))] 4))))) (True ∧ true = true ∧ s.size < 4611686018427387904 ∧ 16 < 4611686018427387904 ∧ ∀ (v r : ByteArray) (e' : Nat), GotB s e (bText v) r e' → v.size ≤ 16 → 1 = 1 ∧ True ∧ 9 ≤ 18 ∧ T2 (True ∧ true = true ∧ r.size < 4611686018427387904 ∧ toI q1 ≤ -9223372036854775808 ∧ toI q2 ≤ 9223372036854775807 ∧ ∀ (v_1 : Int) (r_1 : ByteArray) (e'_1 : Nat), GotB r e' (bInt v_1) r_1 e'_1 → -9223372036854775808 ≤ v_1 ∧ v_1 < 9223372036854775808 → 1 = 1 ∧ T2 (10 ≤ 18 ∧ T2 (True ∧ true = true ∧ r_1.size < 4611686018427387904 ∧ toI q1 ≤ -9223372036854775808 ∧ toI q2 ≤ 9223372036854775807 ∧ ∀ (v_2 : Int) (r : ByteArray) (e' : Nat), GotB r_1 e'_1 (bInt v_2) r e' → -9223372036854775808 ≤ v_2 ∧ v_2 < 9223372036854775808 → 1 = 1 ∧ T2 (11 ≤ 18 ∧ T4 (True ∧ true = true ∧ r.size < 4611686018427387904 ∧ toI q1 ≤ -9223372036854775808 ∧ toI q2 ≤ 9223372036854775807 ∧ ∀ (v_3 : Int) (r_2 : ByteArray) (e'_2 : Nat), GotB r e' (bInt v_3) r_2 e'_2 → -9223372036854775808 ≤ v_3 ∧ v_3 < 9223372036854775808 → 1 = 1 ∧ T4 (True ∧ true = true ∧ r_2.size < 4611686018427387904 ∧ toI q1 ≤ -9223372036854775808 ∧ toI q2 ≤ 9223372036854775807 ∧ ∀ (v_4 : Int) (r : ByteArray) (e' : Nat), GotB r_2 e'_2 (bInt v_4) r e' → -9223372036854775808 ≤ v_4 ∧ v_4 < 9223372036854775808 → 1 = 1 ∧ T4 (T2 (True ∧ true = true ∧ r.size < 4611686018427387904 ∧ toI q1 ≤ -9223372036854775808 ∧ toI q2 ≤ 9223372036854775807 ∧ ∀ (v_5 : Int) (r_3 : ByteArray) (e'_3 : Nat), GotB r e' (bInt v_5) r_3 e'_3 → -9223372036854775808 ≤ v_5 ∧ v_5 < 9223372036854775808 → 1 = 1 ∧ T2 (3 ≤ 3 ∧ True ∧ 14 ≤ 18 ∧ T4 (True ∧ true = true ∧ r_3.size < 4611686018427387904 ∧ toI q1 ≤ -9223372036854775808 ∧ toI q2 ≤ 9223372036854775807 ∧ ∀ (v_6 : Int) (r : ByteArray) (e' : Nat), GotB r_3 e'_3 (bInt v_6) r e' → -9223372036854775808 ≤ v_6 ∧ v_6 < 9223372036854775808 → 1 = 1 ∧ T4 (True ∧ true = true ∧ r.size < 4611686018427387904 ∧ toI q1 ≤ -9223372036854775808 ∧ toI q2 ≤ 9223372036854775807 ∧ ∀ (v_7 : Int) (r_4 : ByteArray) (e'_4 : Nat), GotB r e' (bInt v_7) r_4 e'_4 → -9223372036854775808 ≤ v_7 ∧ v_7 < 9223372036854775808 → 1 = 1 ∧ T4 (T2 (True ∧ true = true ∧ r_4.size < 4611686018427387904 ∧ toI q1 ≤ -9223372036854775808 ∧ toI q2 ≤ 9223372036854775807 ∧ ∀ (v_8 : Int) (r : ByteArray) (e' : Nat), GotB r_4 e'_4 (bInt v_8) r e' → -9223372036854775808 ≤ v_8 ∧ v_8 < 9223372036854775808 → 1 = 1 ∧ T2 (3 ≤ 3 ∧ T2 (17 ≤ 18 ∧ T2 (True ∧ true = true ∧ r.size < 4611686018427387904 ∧ toI q1 ≤ -9223372036854775808 ∧ toI q2 ≤ 9223372036854775807 ∧ ∀ (v_9 : Int) (r_5 : ByteArray) (e'_5 : Nat), GotB r e' (bInt v_9) r_5 e'_5 → -9223372036854775808 ≤ v_9 ∧ v_9 < 9223372036854775808 → 1 = 1 ∧ T2 (True ∧ 18 ≤ 18 ∧ T8 (T2 (True ∧ pIf (!decide (Int.ofNat e'_5 = 0)) (True ∧ 18 ≤ 18 ∧ (T16 (T2 (True))) ∧ true = true ∧ Post (Value.agg #[vz, vi 0, vi 0, vz, vz, vi 0, tree 2 0 #[], tree 1 0 #[], vz, vi 0, vi 0, vi 0, vi 0, vi 0, vi 0, vi 0, vi 0, vi 0]) [[vs r_5, vi (Int.ofNat e'_5)]]) (True ∧ 18 ≤ 18 ∧ (T4 (T2 (True ∧ (0 + k * 1 ≤ List.length l ∧ NLs l) ∧ T8 (T2 (True))))) ∧ true = true ∧ Post (Value.agg #[vs id, vi rev, vi kind, vs node, vs grade, vi thick, tree 2 no oA, tree 1 k (chunks 1 k (List.drop 0 l)), vs v, vi v_1, vi v_2, vi v_3, vi v_4, vi v_5, vi v_6, vi v_7, vi v_8, vi v_9]) [[vs r_5, vi (Int.ofNat e'_5)]])))))))))))))))))))))) := by kernel_rfl
structure FitP (p : Part) : Prop where
 id : p.id.size ≤ 64
 node : p.node.size ≤ 64
 grade : p.grade.size ≤ 16
 sect : p.sect.size ≤ 16
 outer : p.outer.length ≤ 32
 holes : p.holes.length ≤ 8
 all : ∀ h ∈ p.holes, h.length ≤ 32
def y_P (args : List Value) (conts : List (List Value)) (Post : Value → List (List Value) → Prop) : Prop := match args, conts with
 | [.pointer (some ⟨0, 0, none⟩)], [[.string s, .int .i64 (.ofNat e)]] => s.size < 4611686018427387904 ∧ ∀ p r e', GotB s e (bPart p) r e' → InPart p → FitP p → Post (partV p) [[.string r, .int .i64 (.ofNat e')]]
 | _, _ => False
theorem e_yTxs (s : ByteArray) (e m : Nat) (H : HT) (Post : PI) : vcI Tryz.prog callY 154 [(2, [0, 4, 7, 8])] [[.string s, .int .i64 (.ofNat e)]] [ptr0, .int .i64 (.ofNat m)] H Post = (T2 (True ∧ true = true ∧ s.size < 4611686018427387904 ∧ m < 4611686018427387904 ∧ ∀ (v : Nat) (r : ByteArray) (e' : Nat), GotB s e (bList v) r e' → v ≤ m → 1 = 1 ∧ T2 ((NLs [vs r, vi (Int.ofNat e')] ∧ True) ∧ H (lpC Tryz.prog 154 2) (lpK Tryz.prog 154 2) (stV [(0, some (pt 0)), (4, some (nS)), (7, some (vi (Int.ofNat v))), (8, some (vi 0))] [(0, some (AObj.cells [vs r, vi (Int.ofNat e')] true))] 1)))) := by kernel_rfl
theorem l_yTxs0 (s : ByteArray) (e m : Nat) (n i : Int) (H : HT) (Post : PI) : vcLI Tryz.prog callY 154 [ptr0, .int .i64 (.ofNat m)] [(2, [0, 4, 7, 8])] 1 2 (stV [(0, some ptr0), (4, some (.slice none 0 0)), (7, some (.int .i64 n)), (8, some (.int .i64 i))] [(0, some (.cells [.string s, .int .i64 (.ofNat e)] true))] 1) H Post = (True ∧ pIf (decide (i < n)) (T4 (true = true ∧ s.size < 4611686018427387904 ∧ 64 < 4611686018427387904 ∧ ∀ (v r : ByteArray) (e' : Nat), GotB s e (bText v) r e' → v.size ≤ 64 → 1 = 1 ∧ T2 (1 ≤ 1 ∧ 1 ≤ 33554432 ∧ true = true ∧ 1 = 1 ∧ T4 ((NLs [vs r, vi (Int.ofNat e')] ∧ NLs [vs v] ∧ True) ∧ H (lpC Tryz.prog 154 2) (lpK Tryz.prog 154 2) (stV [(0, some (pt 0)), (4, some (Value.slice (some (Addr.mk 1 0 none)) 1 1)), (7, some (vi n)), (8, some (vi (IntKind.wrap IntKind.i64 (i + 1))))] [(0, some (AObj.cells [vs r, vi (Int.ofNat e')] true)), (1, some (AObj.cells [vs v] true))] 2))))) (T2 (True ∧ true = true ∧ Post (tree 1 0 #[]) [[vs s, vi (Int.ofNat e)]]))) := by kernel_rfl
theorem l_yTxs1 (s : ByteArray) (e m k : Nat) (n i : Int) (l : List Value) (H : HT) (Post : PI) : vcLI Tryz.prog callY 154 [ptr0, .int .i64 (.ofNat m)] [(2, [0, 4, 7, 8])] 1 2 (stV [(0, some ptr0), (4, some (.slice (some ⟨1, 0, none⟩) k 1)), (7, some (.int .i64 n)), (8, some (.int .i64 i))] [(0, some (.cells [.string s, .int .i64 (.ofNat e)] true)), (1, some (.cells l true))] 2) H Post = (True ∧ pIf (decide (i < n)) (T4 (true = true ∧ s.size < 4611686018427387904 ∧ 64 < 4611686018427387904 ∧ ∀ (v r : ByteArray) (e' : Nat), GotB s e (bText v) r e' → v.size ≤ 64 → 1 = 1 ∧ T2 (1 ≤ 1 ∧ k + 1 ≤ 33554432 ∧ true = true ∧ 1 = 1 ∧ 0 + k * 1 = List.length l ∧ T4 ((NLs [vs r, vi (Int.ofNat e')] ∧ NLs (l ++ [vs v]) ∧ True) ∧ H (lpC Tryz.prog 154 2) (lpK Tryz.prog 154 2) (stV [(0, some (pt 0)), (4, some (Value.slice (some (Addr.mk 1 0 none)) (k + 1) 1)), (7, some (vi n)), (8, some (vi (IntKind.wrap IntKind.i64 (i + 1))))] [(0, some (AObj.cells [vs r, vi (Int.ofNat e')] true)), (1, some (AObj.cells (l ++ [vs v]) true))] 2))))) (T2 ((0 + k * 1 ≤ List.length l ∧ NLs l) ∧ true = true ∧ Post (tree 1 k (chunks 1 k (List.drop 0 l))) [[vs s, vi (Int.ofNat e)]]))) := by kernel_rfl
abbrev trStr (l : List ByteArray) : Value := tree 1 l.length (encL l)
def y_S (args : List Value) (conts : List (List Value)) (Post : Value → List (List Value) → Prop) : Prop := match args, conts with
 | [.pointer (some ⟨0, 0, none⟩), .int .i64 (.ofNat m)], [[.string s, .int .i64 (.ofNat e)]] => s.size < 4611686018427387904 ∧ m < 1048576 ∧ ∀ l r e', GotB s e (bStrs l) r e' → l.length ≤ m → (∀ x ∈ l, x.size ≤ 64) → Post (trStr l) [[.string r, .int .i64 (.ofNat e')]]
 | _, _ => False
def callYe : VCall := inlCall Tryz.prog [80, 152, 151] (itabCall (⟨154, y_S⟩ :: ⟨153, y_P⟩ :: tabY) noCall) 3
theorem e_yEdit (s : ByteArray) (e : Nat) (H : HT) (Post : PI) : vcI Tryz.prog callYe 150 [] [[.string s, .int .i64 (.ofNat e)]] [ptr0] H Post = (let q2 := vi 9223372036854775807; let q1 := vi (-9223372036854775808); T4 (true = true ∧ s.size < 4611686018427387904 ∧ toI q1 ≤ -9223372036854775808 ∧ toI q2 ≤ 9223372036854775807 ∧ ∀ (v : Int) (r : ByteArray) (e' : Nat), GotB s e (bInt v) r e' → -9223372036854775808 ≤ v ∧ v < 9223372036854775808 → 1 = 1 ∧ T2 (1 ≤ 38 ∧ T2 (True ∧ true = true ∧ r.size < 4611686018427387904 ∧ 64 < 4611686018427387904 ∧ ∀ (v_1 r_1 : ByteArray) (e'_1 : Nat), GotB r e' (bText v_1) r_1 e'_1 → v_1.size ≤ 64 → 1 = 1 ∧ T4 (true = true ∧ r_1.size < 4611686018427387904 ∧ 64 < 4611686018427387904 ∧ ∀ (v_2 r : ByteArray) (e' : Nat), GotB r_1 e'_1 (bText v_2) r e' → v_2.size ≤ 64 → 1 = 1 ∧ T2 (2 ≤ 38 ∧ True ∧ 3 ≤ 38 ∧ T2 (True ∧ true = true ∧ r.size < 4611686018427387904 ∧ 64 < 4611686018427387904 ∧ ∀ (v_3 r_2 : ByteArray) (e'_2 : Nat), GotB r e' (bText v_3) r_2 e'_2 → v_3.size ≤ 64 → 1 = 1 ∧ T4 (true = true ∧ r_2.size < 4611686018427387904 ∧ toI q1 ≤ -9223372036854775808 ∧ toI q2 ≤ 9223372036854775807 ∧ ∀ (v_4 : Int) (r : ByteArray) (e' : Nat), GotB r_2 e'_2 (bInt v_4) r e' → -9223372036854775808 ≤ v_4 ∧ v_4 < 9223372036854775808 → 1 = 1 ∧ T4 (true = true ∧ r.size < 4611686018427387904 ∧ 64 < 4611686018427387904 ∧ ∀ (v_5 r_3 : ByteArray) (e'_3 : Nat), GotB r e' (bText v_5) r_3 e'_3 → v_5.size ≤ 64 → 1 = 1 ∧ T2 (True ∧ 6 ≤ 38 ∧ True ∧ true = true ∧ r_3.size < 4611686018427387904 ∧ ∀ (p : Part) (r : ByteArray) (e' : Nat), GotB r_3 e'_3 (bPart p) r e' → InPart p → FitP p → 1 = 1 ∧ True ∧ 24 ≤ 38 ∧ T2 (True ∧ true = true ∧ r.size < 4611686018427387904 ∧ 64 < 4611686018427387904 ∧ ∀ (v_6 r_4 : ByteArray) (e'_4 : Nat), GotB r e' (bText v_6) r_4 e'_4 → v_6.size ≤ 64 → 1 = 1 ∧ T4 (true = true ∧ r_4.size < 4611686018427387904 ∧ 64 < 4611686018427387904 ∧ ∀ (v_7 r : ByteArray) (e' : Nat), GotB r_4 e'_4 (bText v_7) r e' → v_7.size ≤ 64 → 1 = 1 ∧ T4 (true = true ∧ r.size < 4611686018427387904 ∧ 64 < 4611686018427387904 ∧ ∀ (v_8 r_5 : ByteArray) (e'_5 : Nat), GotB r e' (bText v_8) r_5 e'_5 → v_8.size ≤ 64 → 1 = 1 ∧ T4 (true = true ∧ r_5.size < 4611686018427387904 ∧ toI q1 ≤ -9223372036854775808 ∧ toI q2 ≤ 9223372036854775807 ∧ ∀ (v_9 : Int) (r : ByteArray) (e' : Nat), GotB r_5 e'_5 (bInt v_9) r e' → -9223372036854775808 ≤ v_9 ∧ v_9 < 9223372036854775808 → 1 = 1 ∧ T4 (true = true ∧ r.size < 4611686018427387904 ∧ toI q1 ≤ -9223372036854775808 ∧ toI q2 ≤ 9223372036854775807 ∧ ∀ (v_10 : Int) (r_6 : ByteArray) (e'_6 : Nat), GotB r e' (bInt v_10) r_6 e'_6 → -9223372036854775808 ≤ v_10 ∧ v_10 < 9223372036854775808 → 1 = 1 ∧ T4 (true = true ∧ r_6.size < 4611686018427387904 ∧ toI q1 ≤ -9223372036854775808 ∧ toI q2 ≤ 9223372036854775807 ∧ ∀ (v_11 : Int) (r : ByteArray) (e' : Nat), GotB r_6 e'_6 (bInt v_11) r e' → -9223372036854775808 ≤ v_11 ∧ v_11 < 9223372036854775808 → 1 = 1 ∧ T2 (True ∧ 30 ≤ 38 ∧ T2 (True ∧ true = true ∧ r.size < 4611686018427387904 ∧ 64 < 4611686018427387904 ∧ ∀ (v_12 r_7 : ByteArray) (e'_7 : Nat), GotB r e' (bText v_12) r_7 e'_7 → v_12.size ≤ 64 → 1 = 1 ∧ T4 (true = true ∧ r_7.size < 4611686018427387904 ∧ 64 < 4611686018427387904 ∧ ∀ (v_13 r : ByteArray) (e' : Nat), GotB r_7 e'_7 (bText v_13) r e' → v_13.size ≤ 64 → 1 = 1 ∧ T2 (true = true ∧ r.size < 4611686018427387904 ∧ 256 < 1048576 ∧ ∀ (l : List ByteArray) (r_8 : ByteArray) (e'_8 : Nat), GotB r e' (bStrs l) r_8 e'_8 → List.length l ≤ 256 → (∀ (x : ByteArray), x ∈ l → x.size ≤ 64) → 1 = 1 ∧ T2 (True ∧ true = true ∧ r_8.size < 4611686018427387904 ∧ toI q1 ≤ -9223372036854775808 ∧ toI q2 ≤ 9223372036854775807 ∧ ∀ (v_14 : Int) (r : ByteArray) (e' : Nat), GotB r_8 e'_8 (bInt v_14) r e' → -9223372036854775808 ≤ v_14 ∧ v_14 < 9223372036854775808 → 1 = 1 ∧ T2 (true = true ∧ r.size < 4611686018427387904 ∧ 64 < 1048576 ∧ ∀ (l_1 : List ByteArray) (r_9 : ByteArray) (e'_9 : Nat), GotB r e' (bStrs l_1) r_9 e'_9 → List.length l_1 ≤ 64 → (∀ (x : ByteArray), x ∈ l_1 → x.size ≤ 64) → 1 = 1 ∧ T2 (35 ≤ 38 ∧ T2 (True ∧ true = true ∧ r_9.size < 4611686018427387904 ∧ toI q1 ≤ -9223372036854775808 ∧ toI q2 ≤ 9223372036854775807 ∧ ∀ (v_15 : Int) (r : ByteArray) (e' : Nat), GotB r_9 e'_9 (bInt v_15) r e' → -9223372036854775808 ≤ v_15 ∧ v_15 < 9223372036854775808 → 1 = 1 ∧ T4 (true = true ∧ r.size < 4611686018427387904 ∧ 64 < 4611686018427387904 ∧ ∀ (v_16 r_10 : ByteArray) (e'_10 : Nat), GotB r e' (bText v_16) r_10 e'_10 → v_16.size ≤ 64 → 1 = 1 ∧ T4 (true = true ∧ r_10.size < 4611686018427387904 ∧ 64 < 4611686018427387904 ∧ ∀ (v_17 r : ByteArray) (e' : Nat), GotB r_10 e'_10 (bText v_17) r e' → v_17.size ≤ 64 → 1 = 1 ∧ T2 (True ∧ 38 ≤ 38 ∧ T8 (T2 (True ∧ pIf (!decide (Int.ofNat e' = 0)) (True ∧ 38 ≤ 38 ∧ (T32 (T4 (T2 (True)))) ∧ true = true ∧ Post (Value.agg #[vi 0, vz, vz, vz, vi 0, vz, vz, vi 0, vi 0, vz, vz, vi 0, tree 2 0 #[], tree 1 0 #[], vz, vi 0, vi 0, vi 0, vi 0, vi 0, vi 0, vi 0, vi 0, vi 0, vz, vz, vz, vi 0, vi 0, vi 0, vz, vz, tree 1 0 #[], vi 0, tree 1 0 #[], vi 0, vz, vz]) [[vs r, vi (Int.ofNat e')]]) (True ∧ 38 ≤ 38 ∧ (T32 (T4 (T2 (True)))) ∧ true = true ∧ Post (Value.agg #[vi v, vs v_1, vs v_2, vs v_3, vi v_4, vs v_5, vs p.id, vi p.rev, vi p.kind, vs p.node, vs p.grade, vi p.thick, tree 2 p.outer.length (encL p.outer), tree 1 p.holes.length (encL p.holes), vs p.sect, vi p.long, vi p.mass, vi p.centre.x, vi p.centre.y, vi p.centre.z, vi p.at_.x, vi p.at_.y, vi p.at_.z, vi p.turn, vs v_6, vs v_7, vs v_8, vi v_9, vi v_10, vi v_11, vs v_12, vs v_13, tree 1 l.length (encL l), vi v_14, tree 1 l_1.length (encL l_1), vi v_15, vs v_16, vs v_17]) [[vs r, vi (Int.ofNat e')]])))))))))))))))))))))))))))))) := by kernel_rfl
structure FitE (x : Edit) : Prop where
 part : FitP x.part
 parts : x.pack.parts.length ≤ 256
 after : x.pack.after.length ≤ 64
 vol : volE x ≤ 30000
def y_E (args : List Value) (conts : List (List Value)) (Post : Value → List (List Value) → Prop) : Prop := match args, conts with
 | [.pointer (some ⟨0, 0, none⟩)], [[.string s, .int .i64 (.ofNat e)]] => s.size < 4611686018427387904 ∧ ∀ x r e', GotB s e (bEdit x) r e' → InEdit x → FitE x → Post (editV x) [[.string r, .int .i64 (.ofNat e')]]
 | _, _ => False
def callYd : VCall := inlCall Tryz.prog [36, 64, 80, 81] (itabCall (⟨150, y_E⟩ :: tabY) noCall) 3
theorem e_yDec (s : ByteArray) (H : HT) (Post : PV) : vcP Tryz.prog callYd 148 [(4, [2, 4, 5, 13, 14])] [.string s] H Post = (T8 (T2 (True ∧ true = true ∧ s.size < 4611686018427387904 ∧ 64 < 4611686018427387904 ∧ ∀ (v r : ByteArray) (e' : Nat), GotB s 0 (bText v) r e' → v.size ≤ 64 → 1 = 1 ∧ T2 (2 ≤ 2 ∧ True ∧ true = true ∧ r.size < 4611686018427387904 ∧ 32 < 4611686018427387904 ∧ ∀ (v_1 : Nat) (r_1 : ByteArray) (e'_1 : Nat), GotB r e' (bList v_1) r_1 e'_1 → v_1 ≤ 32 → 1 = 1 ∧ T2 ((T2 (True ∧ True)) ∧ H (lpC Tryz.prog 148 4) (lpK Tryz.prog 148 4) (stV [(2, some (pt 0)), (4, some (pt 1)), (5, some (pt 2)), (13, some (vi (Int.ofNat v_1))), (14, some (vi 0))] [(0, some (AObj.cells [vz, nS] true)), (1, some (AObj.cells [vs r_1, vi (Int.ofNat e'_1)] true)), (2, some (AObj.cells [vs v, nS] true))] 3)))))) := by kernel_rfl
theorem l_yDec0 (t s id : ByteArray) (e : Nat) (n i : Int) (H : HT) (Post : PV) : vcLP Tryz.prog callYd 148 [.string t] [(4, [2, 4, 5, 13, 14])] 4 (stV [(2, some (.pointer (some ⟨0, 0, none⟩))), (4, some (.pointer (some ⟨1, 0, none⟩))), (5, some (.pointer (some ⟨2, 0, none⟩))), (13, some (.int .i64 n)), (14, some (.int .i64 i))] [(0, some (.cells [.string ⟨#[]⟩, .slice none 0 0] true)), (1, some (.cells [.string s, .int .i64 (.ofNat e)] true)), (2, some (.cells [.string id, .slice none 0 0] true))] 3) H Post = (let q2 := True ∧ 2 ≤ 2 ∧ True ∧ ((T2 (True)) ∧ True ∧ True) ∧ Post (Value.tuple #[Value.agg #[vs id, tree 38 0 #[]], vi 0]); let q1 := T2 (2 ≤ 2 ∧ True ∧ ((T2 (True)) ∧ True ∧ True) ∧ Post (Value.tuple #[Value.agg #[vz, tree 38 0 #[]], vi (Int.ofNat e)])); True ∧ pIf (decide (i < n)) (T2 (True ∧ true = true ∧ s.size < 4611686018427387904 ∧ ∀ (x : Edit) (r : ByteArray) (e' : Nat), GotB s e (bEdit x) r e' → InEdit x → FitE x → 1 = 1 ∧ ((nS = nS ∧ True) ∧ True) ∧ True ∧ 38 ≤ 38 ∧ 1 ≤ 33554432 ∧ true = true ∧ 38 = 38 ∧ T2 (2 ≤ 2 ∧ T4 ((T2 (True ∧ NLs [vi x.kind, vs x.id, vs x.to, vs x.node.id, vi x.node.kind, vs x.node.parent, vs x.part.id, vi x.part.rev, vi x.part.kind, vs x.part.node, vs x.part.grade, vi x.part.thick, tree 2 x.part.outer.length (encL x.part.outer), tree 1 x.part.holes.length (encL x.part.holes), vs x.part.sect, vi x.part.long, vi x.part.mass, vi x.part.centre.x, vi x.part.centre.y, vi x.part.centre.z, vi x.part.at_.x, vi x.part.at_.y, vi x.part.at_.z, vi x.part.turn, vs x.seam.id, vs x.seam.a, vs x.seam.b, vi x.seam.kind, vi x.seam.long, vi x.seam.cls, vs x.pack.id, vs x.pack.block, tree 1 x.pack.parts.length (encL x.pack.parts), vi x.pack.hours, tree 1 x.pack.after.length (encL x.pack.after), vi x.need.kind, vs x.need.block, vs x.need.on] ∧ True)) ∧ H (lpC Tryz.prog 148 4) (lpK Tryz.prog 148 4) (stV [(2, some (pt 0)), (4, some (pt 1)), (5, some (pt 2)), (13, some (vi n)), (14, some (vi (IntKind.wrap IntKind.i64 (i + 1))))] [(0, some (AObj.cells [vz, nS] true)), (1, some (AObj.cells [vs r, vi (Int.ofNat e')] true)), (2, some (AObj.cells [vs id, Value.slice (some (Addr.mk 3 0 none)) 1 38] true)), (3, some (AObj.cells [vi x.kind, vs x.id, vs x.to, vs x.node.id, vi x.node.kind, vs x.node.parent, vs x.part.id, vi x.part.rev, vi x.part.kind, vs x.part.node, vs x.part.grade, vi x.part.thick, tree 2 x.part.outer.length (encL x.part.outer), tree 1 x.part.holes.length (encL x.part.holes), vs x.part.sect, vi x.part.long, vi x.part.mass, vi x.part.centre.x, vi x.part.centre.y, vi x.part.centre.z, vi x.part.at_.x, vi x.part.at_.y, vi x.part.at_.z, vi x.part.turn, vs x.seam.id, vs x.seam.a, vs x.seam.b, vi x.seam.kind, vi x.seam.long, vi x.seam.cls, vs x.pack.id, vs x.pack.block, tree 1 x.pack.parts.length (encL x.pack.parts), vi x.pack.hours, tree 1 x.pack.after.length (encL x.pack.after), vi x.need.kind, vs x.need.block, vs x.need.on] true))] 4))))) (T8 (T4 (T2 (True ∧ pIf (decide (Int.ofNat e = 0)) (T8 (T4 (True ∧ pIf (decide ((↑s.size : Int) > 0)) (T4 (T2 (True ∧ 2 ≤ 2 ∧ True ∧ ((T2 (True)) ∧ True ∧ True) ∧ Post (Value.tuple #[Value.agg #[vz, tree 38 0 #[]], vi 4])))) (T4 (T2 (pIf (!decide (Int.ofNat e = 0)) q1 q2)))))) (T4 (T2 (True ∧ pIf (!decide (Int.ofNat e = 0)) q1 q2)))))))) := by kernel_rfl
theorem l_yDec1 (t s id : ByteArray) (e k : Nat) (n i : Int) (l : List Value) (H : HT) (Post : PV) : vcLP Tryz.prog callYd 148 [.string t] [(4, [2, 4, 5, 13, 14])] 4 (stV [(2, some (.pointer (some ⟨0, 0, none⟩))), (4, some (.pointer (some ⟨1, 0, none⟩))), (5, some (.pointer (some ⟨2, 0, none⟩))), (13, some (.int .i64 n)), (14, some (.int .i64 i))] [(0, some (.cells [.string ⟨#[]⟩, .slice none 0 0] true)), (1, some (.cells [.string s, .int .i64 (.ofNat e)] true)), (2, some (.cells [.string id, .slice (some ⟨3, 0, none⟩) k 38] true)), (3, some (.cells l true))] 4) H Post = (let q2 := T2 (2 ≤ 2 ∧ True ∧ ((T2 (True)) ∧ True ∧ True) ∧ Post (Value.tuple #[Value.agg #[vz, tree 38 0 #[]], vi (Int.ofNat e)])); let q1 := True ∧ 2 ≤ 2 ∧ True ∧ ((True ∧ (0 + k * 38 ≤ List.length l ∧ NLs l) ∧ True) ∧ True ∧ True) ∧ Post (Value.tuple #[Value.agg #[vs id, tree 38 k (chunks 38 k (List.drop 0 l))], vi 0]); True ∧ pIf (decide (i < n)) (T2 (True ∧ true = true ∧ s.size < 4611686018427387904 ∧ ∀ (x : Edit) (r : ByteArray) (e' : Nat), GotB s e (bEdit x) r e' → InEdit x → FitE x → 1 = 1 ∧ ((Value.slice (some (Addr.mk 3 0 none)) k 38 = Value.slice (some (Addr.mk 3 0 none)) k 38 ∧ True) ∧ True) ∧ True ∧ 38 ≤ 38 ∧ k + 1 ≤ 33554432 ∧ true = true ∧ 38 = 38 ∧ 0 + k * 38 = List.length l ∧ T2 (2 ≤ 2 ∧ T4 ((T2 (True ∧ NLs (l ++ [vi x.kind, vs x.id, vs x.to, vs x.node.id, vi x.node.kind, vs x.node.parent, vs x.part.id, vi x.part.rev, vi x.part.kind, vs x.part.node, vs x.part.grade, vi x.part.thick, tree 2 x.part.outer.length (encL x.part.outer), tree 1 x.part.holes.length (encL x.part.holes), vs x.part.sect, vi x.part.long, vi x.part.mass, vi x.part.centre.x, vi x.part.centre.y, vi x.part.centre.z, vi x.part.at_.x, vi x.part.at_.y, vi x.part.at_.z, vi x.part.turn, vs x.seam.id, vs x.seam.a, vs x.seam.b, vi x.seam.kind, vi x.seam.long, vi x.seam.cls, vs x.pack.id, vs x.pack.block, tree 1 x.pack.parts.length (encL x.pack.parts), vi x.pack.hours, tree 1 x.pack.after.length (encL x.pack.after), vi x.need.kind, vs x.need.block, vs x.need.on]) ∧ True)) ∧ H (lpC Tryz.prog 148 4) (lpK Tryz.prog 148 4) (stV [(2, some (pt 0)), (4, some (pt 1)), (5, some (pt 2)), (13, some (vi n)), (14, some (vi (IntKind.wrap IntKind.i64 (i + 1))))] [(0, some (AObj.cells [vz, nS] true)), (1, some (AObj.cells [vs r, vi (Int.ofNat e')] true)), (2, some (AObj.cells [vs id, Value.slice (some (Addr.mk 3 0 none)) (k + 1) 38] true)), (3, some (AObj.cells (l ++ [vi x.kind, vs x.id, vs x.to, vs x.node.id, vi x.node.kind, vs x.node.parent, vs x.part.id, vi x.part.rev, vi x.part.kind, vs x.part.node, vs x.part.grade, vi x.part.thick, tree 2 x.part.outer.length (encL x.part.outer), tree 1 x.part.holes.length (encL x.part.holes), vs x.part.sect, vi x.part.long, vi x.part.mass, vi x.part.centre.x, vi x.part.centre.y, vi x.part.centre.z, vi x.part.at_.x, vi x.part.at_.y, vi x.part.at_.z, vi x.part.turn, vs x.seam.id, vs x.seam.a, vs x.seam.b, vi x.seam.kind, vi x.seam.long, vi x.seam.cls, vs x.pack.id, vs x.pack.block, tree 1 x.pack.parts.length (encL x.pack.parts), vi x.pack.hours, tree 1 x.pack.after.length (encL x.pack.after), vi x.need.kind, vs x.need.block, vs x.need.on]) true))] 4))))) (T8 (T4 (T2 (True ∧ pIf (decide (Int.ofNat e = 0)) (T8 (T4 (True ∧ pIf (decide ((↑s.size : Int) > 0)) (T4 (T2 (True ∧ 2 ≤ 2 ∧ True ∧ ((T2 (True)) ∧ True ∧ True) ∧ Post (Value.tuple #[Value.agg #[vz, tree 38 0 #[]], vi 4])))) (T4 (T2 (pIf (!decide (Int.ofNat e = 0)) q2 q1)))))) (T4 (T2 (True ∧ pIf (!decide (Int.ofNat e = 0)) q2 q1)))))))) := by kernel_rfl
def ord0 : Order2 := ⟨⟨#[]⟩, []⟩
structure OrdR (t : ByteArray) (o : Order2) (w : Int) : Prop where
 ok : w = 0 → bOrder o = t
 inO : InOrder o
 few : FewO o
 big : w ≠ 0 → o = ord0
def y_D (args : List Value) (Post : Value → Prop) : Prop := match args with
 | [.string t] => t.size < 4611686018427387904 ∧ ∀ o w, OrdR t o w → Post (.tuple #[order2V o, .int .i64 w])
 | _ => False
def nextO : PCall := ofV (tabCall [⟨148, y_D⟩] (itabCall tabRd noCall))
def callO : PCall := inlP Tryz.prog [143, 79, 80] nextO 4
theorem e_rd1 (a w : Int) (s : ByteArray) (H : HT) (Post : PX) : vcX Tryz.prog callO 22 [(19, [0, 1, 132, 133]), (31, [0, 1, 203, 204]), (55, [0, 1, 330, 331])] [cells0 1 a, [ptr2, .int .i64 w], [.string s, .int .i64 0]] argsR H Post = (T16 (True ∧ true = true ∧ s.size < 4611686018427387904 ∧ 1048576 < 4611686018427387904 ∧ (∀ (v r : ByteArray), rsT 1048576 s = Rs.ok v r → 1 = 1 ∧ T16 (T4 (True ∧ v.size < 4611686018427387904 ∧ ∀ (o : Order2) (w : Int), OrdR v o w → T4 (9 ≤ 40 ∧ T2 (2 ≤ 2 ∧ True ∧ (((T32 (T8 (True))) ∧ (T2 (True)) ∧ (T2 (True)) ∧ True) ∧ True) ∧ true = true ∧ Post (Out.ret (Value.tuple #[])) [[vi 1, vi a, vz, vz, vz, vi 0, vb false, vs o.id, tree 38 o.edits.length (encL o.edits), vz, vz, vi 0, vi 0, vi 0, vz, vz, vz, vz, vi 0, vz, vz, vi 0, nS, vz, vi 0, nS, vz, vi 0, vi 0, vi 0, vi 0, vi 0, vi 0, nS, vz, nS, vz, vi 0, vi 0, vi 0], [pt 2, vi w], [vs r, vi 0]]))))) ∧ ∀ (e : Nat), rsT 1048576 s = Rs.err e → 1 = 1 ∧ T16 (T4 (((T32 (T8 (True))) ∧ (T2 (True)) ∧ (T2 (True)) ∧ True) ∧ true = true ∧ Post (Out.pan (Value.iface 50 (vi (Int.ofNat (e + 1))))) [[vi 1, vi a, vz, vz, vz, vi 0, vb false, vz, nS, vz, vz, vi 0, vi 0, vi 0, vz, vz, vz, vz, vi 0, vz, vz, vi 0, nS, vz, vi 0, nS, vz, vi 0, vi 0, vi 0, vi 0, vi 0, vi 0, nS, vz, nS, vz, vi 0, vi 0, vi 0], [pt 2, vi w], [vs s, vi (Int.ofNat (e + 1))]])))) := by kernel_rfl
def part0 : Part := ⟨⟨#[]⟩, 0, 0, ⟨#[]⟩, ⟨#[]⟩, 0, [], [], ⟨#[]⟩, 0, 0, ⟨0, 0, 0⟩, ⟨0, 0, 0⟩, 0⟩
theorem in64_0 : In64 0 := by unfold In64; omega
theorem in_part0 : InPart part0 := ⟨in64_0, in64_0, in64_0, (fun x h => by cases h), (fun x h => by cases h), in64_0, in64_0, ⟨in64_0, in64_0, in64_0⟩, ⟨in64_0, in64_0, in64_0⟩, in64_0, by decide, by decide, by decide, by decide⟩
theorem fit_part0 : FitP part0 := ⟨by decide, by decide, by decide, by decide, by decide, by decide, (fun x h => by cases h)⟩
def bFr0 (f : Part) : ByteArray := bText f.id ++ bInt f.rev ++ bInt f.kind ++ bText f.node ++ bText f.grade ++ bInt f.thick ++ bPts f.outer
def bHl (f : Part) (n : Nat) (l : List (List Pt)) : ByteArray := l.foldl (fun s h => s ++ bPts h) (bFr0 f ++ bList n)
theorem bHl_part (f : Part) (l : List (List Pt)) (sect : ByteArray) (long mass cx cy cz ax ay az turn : Int) : bHl f l.length l ++ (bText sect ++ (bInt long ++ (bInt mass ++ (bInt cx ++ (bInt cy ++ (bInt cz ++ (bInt ax ++ (bInt ay ++ (bInt az ++ bInt turn))))))))) = bPart { f with holes := l, sect := sect, long := long, mass := mass, centre := ⟨cx, cy, cz⟩, at_ := ⟨ax, ay, az⟩, turn := turn } := by
 unfold bPart bHoles bHl bFr0 bFront bRear bInts
 simp only [List.take_length, List.foldl_cons, List.foldl_nil, ba_assoc, ba_nil]
abbrev OkYP (Post : Value → List (List Value) → Prop) (st : AS) : Prop := OkI Tryz.prog 153 [ptr0] 1 Post (lpC Tryz.prog 153 10) (lpK Tryz.prog 153 10) st
def zeroY : List Value := [.string ⟨#[]⟩, .int .i64 0, .int .i64 0, .string ⟨#[]⟩, .string ⟨#[]⟩, .int .i64 0, .slice none 0 0, .slice none 0 0, .string ⟨#[]⟩, .int .i64 0, .int .i64 0, .int .i64 0, .int .i64 0, .int .i64 0, .int .i64 0, .int .i64 0, .int .i64 0, .int .i64 0]
def frontY (f : Part) (u : Value) : List Value := [.string f.id, .int .i64 f.rev, .int .i64 f.kind, .string f.node, .string f.grade, .int .i64 f.thick, trPt f.outer, u, .string ⟨#[]⟩, .int .i64 0, .int .i64 0, .int .i64 0, .int .i64 0, .int .i64 0, .int .i64 0, .int .i64 0, .int .i64 0, .int .i64 0]
theorem yP_fin (Post : Value → List (List Value) → Prop) (s0 : ByteArray) (e0 : Nat) (f : Part) (hf : InPart f) (hff : FitP f) (l : List (List Pt)) (hl : l.length ≤ 8) (hin : ∀ x ∈ l, x.length ≤ 32 ∧ ∀ y ∈ x, InPt y) (s : ByteArray) (e : Nat) (hr : GotB s0 e0 (bHl f l.length l) s e)
  (h : ∀ p r e, GotB s0 e0 (bPart p) r e → InPart p → FitP p → Post (partV p) [[.string r, .int .i64 (.ofNat e)]])
  {sect : ByteArray} {long mass cx cy cz ax ay az turn : Int} {s1 s2 s3 s4 s5 s6 s7 s8 s9 t : ByteArray} {e1 e2 e3 e4 e5 e6 e7 e8 e9 e' : Nat}
  (r1 : GotB s e (bText sect) s1 e1) (i1 : sect.size ≤ 16) (r2 : GotB s1 e1 (bInt long) s2 e2) (i2 : In64 long) (r3 : GotB s2 e2 (bInt mass) s3 e3) (i3 : In64 mass) (r4 : GotB s3 e3 (bInt cx) s4 e4) (i4 : In64 cx) (r5 : GotB s4 e4 (bInt cy) s5 e5) (i5 : In64 cy) (r6 : GotB s5 e5 (bInt cz) s6 e6) (i6 : In64 cz) (r7 : GotB s6 e6 (bInt ax) s7 e7) (i7 : In64 ax) (r8 : GotB s7 e7 (bInt ay) s8 e8) (i8 : In64 ay) (r9 : GotB s8 e8 (bInt az) s9 e9) (i9 : In64 az) (r10 : GotB s9 e9 (bInt turn) t e') (i10 : In64 turn) :
  (¬ (Int.ofNat e' = 0) → Post (partV part0) [[.string t, .int .i64 (.ofNat e')]]) ∧ (Int.ofNat e' = 0 → Post (partV { f with holes := l, sect := sect, long := long, mass := mass, centre := ⟨cx, cy, cz⟩, at_ := ⟨ax, ay, az⟩, turn := turn }) [[.string t, .int .i64 (.ofNat e')]]) := by
 have R := hr.trans (r1.trans (r2.trans (r3.trans (r4.trans (r5.trans (r6.trans (r7.trans (r8.trans (r9.trans r10)))))))))
 refine ⟨fun hn => h part0 t e' (R.bad fun h0 => hn (by rw [h0]; rfl)) in_part0 fit_part0, fun _ => h _ t e' (R.cast (bHl_part f l sect long mass cx cy cz ax ay az turn)) ?_ ?_⟩
 ·exact ⟨hf.rev, hf.kind, hf.thick, hf.outer, fun x hx => (hin x hx).2, i2, i3, ⟨i4, i5, i6⟩, ⟨i7, i8, i9⟩, i10, hf.id, hf.node, hf.grade, Nat.le_trans i1 (by decide)⟩
 ·exact ⟨hff.id, hff.node, hff.grade, i1, hff.outer, hl, fun x hx => (hin x hx).1⟩
theorem yP_loop (Post : Value → List (List Value) → Prop) (s0 : ByteArray) (e0 : Nat) (f : Part) (hf : InPart f) (hff : FitP f) (n : Nat) (hn : n ≤ 8)
  (h : ∀ p r e, GotB s0 e0 (bPart p) r e → InPart p → FitP p → Post (partV p) [[.string r, .int .i64 (.ofNat e)]]) : ∀ (j i : Nat) (s : ByteArray) (e : Nat) (l : List (List Pt)), i + j = n → l.length = i → s.size < 4611686018427387904 → GotB s0 e0 (bHl f n l) s e → (∀ x ∈ l, x.length ≤ 32 ∧ ∀ y ∈ x, InPt y) →
  OkYP Post (stV [(0, some ptr0), (2, some (.pointer (some ⟨1, 0, none⟩))), (3, some (.pointer (some ⟨2, 0, none⟩))), (27, some (.int .i64 n)), (28, some (.int .i64 i))] ([(0, some (.cells [.string s, .int .i64 (.ofNat e)] true)), (1, some (.cells zeroY true)), (2, some (.cells (frontY f (accV 3 l)) true))] ++ accH 3 l) (accN 3 l)) := by
 intro j
 induction j with
 | zero =>
  intro i s e l hi hl hs hr hin
  have hr' : GotB s0 e0 (bHl f l.length l) s e := by rw [show l.length = n by omega]; exact hr
  unfold accV accH accN
  by_cases h0 : l.length = 0
  ·rw [if_pos h0, if_pos h0, if_pos h0]
   refine ok_I (vc := callYp) callYp_ok mixed _ (l_yPart0 s e n i f.id f.node f.grade f.rev f.kind f.thick f.outer.length (encL f.outer) _ _) ?_
   simp only [true_and, and_true]
   have hl0 := List.eq_nil_of_length_eq_zero h0
   subst hl0
   refine pIfD (fun hh => absurd hh (by omega)) (fun _ => ?_)
   and_intros <;> try first | omega | decide | rfl
   intro v1 s1 e1 r1 i1
   have q1 := r1.le
   and_intros <;> try first | omega | decide | rfl
   intro v2 s2 e2 r2 i2
   have q2 := r2.le
   and_intros <;> try first | omega | decide | rfl
   intro v3 s3 e3 r3 i3
   have q3 := r3.le
   and_intros <;> try first | omega | decide | rfl
   intro v4 s4 e4 r4 i4
   have q4 := r4.le
   and_intros <;> try first | omega | decide | rfl
   intro v5 s5 e5 r5 i5
   have q5 := r5.le
   and_intros <;> try first | omega | decide | rfl
   intro v6 s6 e6 r6 i6
   have q6 := r6.le
   and_intros <;> try first | omega | decide | rfl
   intro v7 s7 e7 r7 i7
   have q7 := r7.le
   and_intros <;> try first | omega | decide | rfl
   intro v8 s8 e8 r8 i8
   have q8 := r8.le
   and_intros <;> try first | omega | decide | rfl
   intro v9 s9 e9 r9 i9
   have q9 := r9.le
   and_intros <;> try first | omega | decide | rfl
   intro v10 s10 e10 r10 i10
   have q10 := r10.le
   have F := yP_fin Post s0 e0 f hf hff _ (by omega) hin s e hr' h r1 i1 r2 i2 r3 i3 r4 i4 r5 i5 r6 i6 r7 i7 r8 i8 r9 i9 r10 i10
   and_intros <;> try first | omega | decide | rfl
   refine pIfN (fun hh => ?_) (fun hh => ?_)
   ·and_intros <;> first | omega | decide | rfl | exact trivial | exact F.1 hh
   ·and_intros <;> first | omega | decide | rfl | exact trivial | exact F.2 hh
  ·rw [if_neg h0, if_neg h0, if_neg h0]
   refine ok_I (vc := callYp) callYp_ok mixed _ (l_yPart1 s e n i f.id f.node f.grade f.rev f.kind f.thick f.outer.length (encL f.outer) l.length (rowC l) _ _) ?_
   simp only [true_and, and_true]
   rw [show chunks 1 l.length (List.drop 0 (rowC l)) = encL l from chunks_row l]
   refine pIfD (fun hh => absurd hh (by omega)) (fun _ => ?_)
   and_intros <;> try first | omega | decide | rfl
   intro v1 s1 e1 r1 i1
   have q1 := r1.le
   and_intros <;> try first | omega | decide | rfl
   intro v2 s2 e2 r2 i2
   have q2 := r2.le
   and_intros <;> try first | omega | decide | rfl
   intro v3 s3 e3 r3 i3
   have q3 := r3.le
   and_intros <;> try first | omega | decide | rfl
   intro v4 s4 e4 r4 i4
   have q4 := r4.le
   and_intros <;> try first | omega | decide | rfl
   intro v5 s5 e5 r5 i5
   have q5 := r5.le
   and_intros <;> try first | omega | decide | rfl
   intro v6 s6 e6 r6 i6
   have q6 := r6.le
   and_intros <;> try first | omega | decide | rfl
   intro v7 s7 e7 r7 i7
   have q7 := r7.le
   and_intros <;> try first | omega | decide | rfl
   intro v8 s8 e8 r8 i8
   have q8 := r8.le
   and_intros <;> try first | omega | decide | rfl
   intro v9 s9 e9 r9 i9
   have q9 := r9.le
   and_intros <;> try first | omega | decide | rfl
   intro v10 s10 e10 r10 i10
   have q10 := r10.le
   have F := yP_fin Post s0 e0 f hf hff _ (by omega) hin s e hr' h r1 i1 r2 i2 r3 i3 r4 i4 r5 i5 r6 i6 r7 i7 r8 i8 r9 i9 r10 i10
   and_intros <;> try first | omega | decide | rfl
   refine pIfN (fun hh => ?_) (fun hh => ?_)
   ·and_intros <;> first | omega | decide | rfl | exact trivial | exact F.1 hh
   ·and_intros <;> first | omega | decide | rfl | exact trivial | exact F.2 hh | exact rowC_nls l | (rw [rowC_len, Nat.zero_add]; exact Nat.le_refl _)
 | succ j ih =>
  intro i s e l hi hl hs hr hin
  have nx := fun x s1 e1 (r1 : GotB s e (bPts x) s1 e1) (i1 : x.length ≤ 32) (j1 : ∀ y ∈ x, InPt y) => ih (i + 1) s1 e1 (l ++ [x]) (by omega) (by simp [hl]) (Nat.lt_of_le_of_lt r1.le hs) (by unfold bHl; rw [List.foldl_append]; exact hr.trans r1) (mem_snoc hin ⟨i1, j1⟩)
  unfold accV accH accN at nx ⊢
  simp only [List.length_append, List.length_cons, List.length_nil, Nat.zero_add, Nat.add_eq_zero_iff, Nat.one_ne_zero, and_false, if_false, rowC_snoc] at nx
  by_cases h0 : l.length = 0
  ·rw [if_pos h0, if_pos h0, if_pos h0]
   refine ok_I (vc := callYp) callYp_ok mixed _ (l_yPart0 s e n i f.id f.node f.grade f.rev f.kind f.thick f.outer.length (encL f.outer) _ _) ?_
   simp only [true_and, and_true]
   have hl0 := List.eq_nil_of_length_eq_zero h0
   subst hl0
   rw [wrapSucc (by omega)]
   refine pIfD (fun _ => ?_) (fun hh => absurd hh (by omega))
   and_intros <;> try first | omega | decide | rfl
   intro x s1 e1 r1 i1 j1
   and_intros <;> first | omega | decide | rfl | exact trivial | exact yNls2 _ _ rfl rfl | exact ySnoc (l := []) (fun _ h => by cases h) rfl | exact nx x s1 e1 r1 i1 j1
  ·rw [if_neg h0, if_neg h0, if_neg h0]
   refine ok_I (vc := callYp) callYp_ok mixed _ (l_yPart1 s e n i f.id f.node f.grade f.rev f.kind f.thick f.outer.length (encL f.outer) l.length (rowC l) _ _) ?_
   simp only [true_and, and_true]
   rw [wrapSucc (by omega)]
   refine pIfD (fun _ => ?_) (fun hh => absurd hh (by omega))
   and_intros <;> try first | omega | decide | rfl
   intro x s1 e1 r1 i1 j1
   and_intros <;> first | omega | decide | rfl | exact trivial | exact yNls2 _ _ rfl rfl | exact ySnoc (l := rowC l) (rowC_nls l) rfl | (rw [rowC_len, Nat.zero_add]; rfl) | exact nx x s1 e1 r1 i1 j1
theorem ok_yP : IEntOk Tryz.prog ⟨153, y_P⟩ := by
 intro args conts Post h
 unfold y_P at h
 dsimp only at h
 split at h
 case h_2 => exact h.elim
 rename_i s e
 obtain ⟨hs, h⟩ := h
 refine spec_I (vc := callYp) callYp_ok mixed (by kernel_rfl) (by kernel_rfl) _ (e_yPart s e _ _) ?_
 simp only [true_and, and_true]
 and_intros <;> try first | omega | decide | rfl
 intro v1 s1 e1 r1 i1
 have q1 := r1.le
 and_intros <;> try first | omega | decide | rfl
 intro v2 s2 e2 r2 i2
 have q2 := r2.le
 and_intros <;> try first | omega | decide | rfl
 intro v3 s3 e3 r3 i3
 have q3 := r3.le
 and_intros <;> try first | omega | decide | rfl
 intro v4 s4 e4 r4 i4
 have q4 := r4.le
 and_intros <;> try first | omega | decide | rfl
 intro v5 s5 e5 r5 i5
 have q5 := r5.le
 and_intros <;> try first | omega | decide | rfl
 intro v6 s6 e6 r6 i6
 have q6 := r6.le
 and_intros <;> try first | omega | decide | rfl
 intro v7 s7 e7 r7 i7 j7
 have q7 := r7.le
 and_intros <;> try first | omega | decide | rfl
 intro v8 s8 e8 r8 i8
 have q8 := r8.le
 have hf : InPart { part0 with id := v1, rev := v2, kind := v3, node := v4, grade := v5, thick := v6, outer := v7 } := ⟨i2, i3, i6, j7, (fun x h => by cases h), in64_0, in64_0, ⟨in64_0, in64_0, in64_0⟩, ⟨in64_0, in64_0, in64_0⟩, in64_0, Nat.le_trans i1 (by decide), Nat.le_trans i4 (by decide), Nat.le_trans i5 (by decide), in_part0.sect⟩
 have hff : FitP { part0 with id := v1, rev := v2, kind := v3, node := v4, grade := v5, thick := v6, outer := v7 } := ⟨i1, i4, i5, fit_part0.sect, i7, fit_part0.holes, (fun x h => by cases h)⟩
 have R := r1.trans (r2.trans (r3.trans (r4.trans (r5.trans (r6.trans (r7.trans r8))))))
 have lp := yP_loop Post s e _ hf hff v8 i8 h v8 0 s8 e8 [] (Nat.zero_add _) rfl (by omega) (R.cast (by unfold bHl bFr0; simp only [List.foldl_nil, ba_assoc])) (fun x hx => by cases hx)
 and_intros <;> first | omega | decide | rfl | exact yNls2 _ _ rfl rfl | exact lp
end Go.Proofs.YtegjnjmimfgijaaGreatDoor
