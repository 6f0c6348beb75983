/-
  Put together out of several texts, each in its own namespace's block. Conditions: as each theorem states them.
-/
import Derived.Handy
import Derived.Below
import Derived.Laws.OwnMore
import Derived.Deep.AppendLies
import Derived.Deep.Draws
import Derived.Laws.Rows
import Derived.Lib.Hide
import Derived.Lib.SmallJoins
import Derived.Deep.Slices
import Derived.Deep.Fields
import Derived.ChangeSame
import Derived.Test.YtojlhapbngcjkaaGreatDoorProg
import Derived.WalkSpells
import Derived.WalkLawsBesides
import Derived.Deep.QuietTactic
import Derived.BigQuiet
import Derived.Shelf.Strings.Builder1
import Derived.Test.YtojlhapbngcjkaaGreatDoorQSp
import Derived.Test.YtojlhapbngcjkaaGreatDoorQSi
namespace Go.Proofs.YtojlhapbngcjkaaGreatDoor
open Go Go.RowKit
theorem block_of_add (a : Addr) (n : Nat) : (a.add n).block = a.block := by unfold Addr.add; split <;> rfl
theorem add_of_add (a : Addr) (i j : Nat) : (a.add i).add j = a.add (i + j) := by
 unfold Addr.add
 by_cases hi : i = 0 <;> by_cases hj : j = 0 <;> simp [hi, hj, Nat.add_assoc]
def Reads (w : World) (B size : Nat) (A : Option Addr) (n : Nat) (xs : List Value) : Prop :=
 xs.length = n * size ∧ (0 < n → ∃ ad, A = some ad ∧ ad.block < B ∧ ∀ j u, xs[j]? = some u → w.cell? (ad.add j) = some u)
section
variable {w w' : World} {B B' size n : Nat} {A : Option Addr} {xs : List Value}
theorem Reads.keep (h : Reads w B size A n xs) (hk : ∀ p : Addr, p.block < B → w'.cell? p = w.cell? p) : Reads w' B size A n xs :=
 ⟨h.1, fun hn => by
  obtain ⟨ad, e, hb, hc⟩ := h.2 hn
  exact ⟨ad, e, hb, fun j u hu => (hk _ (by rw [block_of_add]; exact hb)).trans (hc j u hu)⟩⟩
theorem Reads.more (h : Reads w B size A n xs) (hB : B ≤ B') : Reads w B' size A n xs :=
 ⟨h.1, fun hn => by
  obtain ⟨ad, e, hb, hc⟩ := h.2 hn
  exact ⟨ad, e, by omega, hc⟩⟩
theorem Reads.below (h : Reads w B size A n xs) (hb : Below B w w') : Reads w' B size A n xs := h.keep fun _ hp => hb.cell hp
theorem Reads.drew (h : Reads w B size A n xs) : Reads w.drew B size A n xs := h
theorem Reads.alloc (h : Reads w B size A n xs) (hB : B ≤ w.heap.size) (o : Obj) : Reads (w.alloc o) B size A n xs := h.keep fun p hp => World.cell?_alloc_lt w o p (by omega)
theorem Reads.setCell (h : Reads w B size A n xs) {p : Addr} (hB : B ≤ p.block) (u : Value) : Reads (w.setCell p u) B size A n xs :=
 h.keep fun q hq => World.cell?_setCell_other w p q u (fun e => by subst e; omega)
theorem Reads.cut (h : Reads w B size A n xs) {k cap : Nat} (hk : k ≤ n) (hc : n ≤ cap) :
  Reads w B size (if cap = k then A else A.map (·.add (k * size))) (n - k) (xs.drop (k * size)) := by
 refine ⟨by rw [List.length_drop, h.1, Nat.sub_mul], fun hn => ?_⟩
 obtain ⟨ad, rfl, hb, hcell⟩ := h.2 (by omega)
 rw [if_neg (by omega)]
 refine ⟨ad.add (k * size), rfl, by rw [block_of_add]; exact hb, fun j u hu => ?_⟩
 rw [add_of_add]
 exact hcell _ u (by rw [← hu, List.getElem?_drop])
end
def Blk (w : World) (g : Nat) (t : TypeId) (cs : Array Value) : Prop := w.heap[g]? = some (.cells cs t (0, 0))
section
variable {w w' : World} {g : Nat} {t : TypeId} {cs : Array Value}
theorem Blk.lt (h : Blk w g t cs) : g < w.heap.size := by
 rcases Nat.lt_or_ge g w.heap.size with hlt | hge
 ·exact hlt
 ·unfold Blk at h; rw [Array.getElem?_eq_none hge] at h; cases h
theorem Blk.cell (h : Blk w g t cs) (i : Nat) : w.cell? ⟨g, i, none⟩ = cs[i]? := cell_of_row w g i cs t (0, 0) h
theorem Blk.frozen (h : Blk w g t cs) (i : Nat) : w.frozen? ⟨g, i, none⟩ = false := by
 unfold Blk at h
 simp [World.frozen?, h]
theorem Blk.new (w : World) (t : TypeId) (cs : Array Value) : Blk (w.alloc (.cells cs t)) w.heap.size t cs := heap_alloc_new w _
theorem Blk.drew (h : Blk w g t cs) : Blk w.drew g t cs := h
theorem Blk.alloc (h : Blk w g t cs) (o : Obj) : Blk (w.alloc o) g t cs := (Below.heap_alloc w o g h.lt).trans h
theorem Blk.below {B : Nat} (h : Blk w g t cs) (hb : Below B w w') (hg : g < B) : Blk w' g t cs := (hb.block g hg).trans h
end
end Go.Proofs.YtojlhapbngcjkaaGreatDoor

noncomputable section
namespace Go.Proofs.YtojlhapbngcjkaaGreatDoor
open Go Go.RowKit
set_option maxRecDepth 100000
set_option maxHeartbeats 8000000
def IsBT (T : TypeId) : Prop := T = 80 ∨ T = 78
def Bld (c : Nat) (p : Value) (bs : List Value) (w : World) : Prop := ∃ T, IsBT T ∧ Lib.BuilderAt T 5 0 c p bs w
theorem info_byte : ∃ i0, Tryz.prog.info? 5 = some i0 ∧ i0.zero = some (.int .u8 0) ∧ i0.size = 1 ∧ i0.bytes = 1 := info_parts (by kernel_rfl)
theorem info_bld : ∃ j, Tryz.prog.info? 78 = some j ∧ j.size = 2 := by
 have h : (Tryz.prog.info? 78).map (·.size) = some 2 := by kernel_rfl
 obtain ⟨j, hj, h2⟩ := Option.map_eq_some_iff.1 h
 exact ⟨j, hj, h2⟩
theorem lies_bld {T : TypeId} (hT : IsBT T) : liesAt Tryz.prog Tryz.prog.depth T (2 / Tryz.prog.cellsOf T) 0 78 1 = true := by
 rcases hT with rfl | rfl <;> kernel_rfl
set_option maxHeartbeats 1000000 in
set_option maxRecDepth 100000 in
theorem copyCheck_used (c : Nat) (w : World) (h0 : w.cell? ⟨c, 0, none⟩ = some (.pointer (some ⟨c, 0, none⟩))) :
  Calls Tryz.prog 111 #[.pointer (some ⟨c, 0, none⟩)] w fun e w' => e = .returned (.tuple #[]) ∧ w' = w := by
 obtain ⟨j, hj, _⟩ := info_bld
 go_enter Tryz.func111, Tryz.ntmps111
 go_wp2
 rw [Lib.run_neq_ptr_same w _ Tryz.underlying75 hj]
 go_wp2
 go_end0
 exact ⟨rfl, rfl⟩
set_option maxHeartbeats 1000000 in
set_option maxRecDepth 100000 in
theorem copyCheck_fresh {T : TypeId} (hT : IsBT T) (c : Nat) (w : World) (h0 : w.cell? ⟨c, 0, none⟩ = some (.pointer none)) (hsh : w.shape? c = some (T, 2)) (hfz : w.frozen? ⟨c, 0, none⟩ = false) :
  Calls Tryz.prog 111 #[.pointer (some ⟨c, 0, none⟩)] w fun e w' => e = .returned (.tuple #[]) ∧ w' = w.setCell ⟨c, 0, none⟩ (.pointer (some ⟨c, 0, none⟩)) := by
 obtain ⟨j, hj, hjs⟩ := info_bld
 go_enter Tryz.func111, Tryz.ntmps111
 go_wp2
 rw [Lib.run_to_unsafe w ⟨c, 0, none⟩ Tryz.underlying75 Tryz.underlying252 hj (by rw [hjs]; decide) hsh (Nat.zero_lt_succ 1)]
 simp only [Result.andThen]
 rw [Oper.upon_value]
 go_wp2
 rw [run_callFunc_extern Tryz.func163 (by kernel_rfl) (by kernel_rfl) (by kernel_rfl) (e := Extern.AbiNoEscape.same) (by kernel_rfl)]
 rw [Lib.run_noEscape]
 simp only [Result.andThen]
 rw [Oper.upon_value]
 go_wp2
 rw [Lib.run_from_unsafe w ⟨c, 0, none⟩ Tryz.underlying252 Tryz.underlying75 hj hsh (lies_bld hT)]
 simp only [Result.andThen]
 rw [Oper.upon_value]
 go_wp2
 go_end0
 exact ⟨rfl, rfl⟩
def bufOf (c : Nat) (w : World) : Option Nat := match w.heap[c]? with
 | some (.cells cs _ _) => match cs[1]? with
  | some v => v.ownBlock
  | none => none
 | _ => none
theorem copyCheck_any (c : Nat) (bs : List Value) (w : World) (h : Bld c (.pointer none) bs w ∨ Bld c (.pointer (some ⟨c, 0, none⟩)) bs w) :
  Calls Tryz.prog 111 #[.pointer (some ⟨c, 0, none⟩)] w fun e w' => e = .returned (.tuple #[]) ∧ Bld c (.pointer (some ⟨c, 0, none⟩)) bs w' ∧ w.grownBy w' (some c) ∧ bufOf c w' = bufOf c w := by
 rcases h with ⟨T, hT, h⟩ | ⟨T, hT, h⟩
 ·refine (copyCheck_fresh hT c w h.cell0 h.shape h.frozen0).mono ?_
  rintro e w' ⟨rfl, rfl⟩
  refine ⟨rfl, ⟨T, hT, h.used _⟩, ⟨rfl, rfl, rfl, by simp [World.setCell], fun k _ hk => Below.heap_setCell _ _ _ _ (fun e => hk (by simp [e]))⟩, ?_⟩
  obtain ⟨_, v, hb, _⟩ := h
  simp [bufOf, World.setCell, Array.getElem?_modify, hb]
 ·refine (copyCheck_used c w h.cell0).mono ?_
  rintro e w' ⟨rfl, rfl⟩
  exact ⟨rfl, ⟨T, hT, h⟩, ⟨rfl, rfl, rfl, Nat.le_refl _, fun _ _ _ => rfl⟩, rfl⟩
theorem append_row {P : Program} (w : World) (t u ty e : TypeId) (i : TypeInfo) (ht : P.underlying t = some (.slice e)) (hu : P.underlying u = some .string) (hi : P.info? e = some i) (hz : i.zero = some (.int .u8 0)) (hsize : i.size = 1) (hby : i.bytes = 1)
  (v : Value) (n : Nat) (xs : List Value) (hown : w.ownsRow 0 e 1 v n xs) (s : ByteArray) (hlen : n + s.size ≤ 140737488355328) :
  ∃ v' w', (Builtin.append_ #[t, u] ty #[v, .string s]).run P w = .ok v' w' ∧ w'.ownsRow 0 e 1 v' (n + s.size) (xs ++ Lib.strCells s) ∧ w.grownBy w' v.ownBlock ∧ (∀ g, v'.ownBlock = some g → v.ownBlock = some g ∨ w.heap.size ≤ g) := by
 have h63 : n + s.size ≤ maxLen := by unfold maxLen; omega
 have hxl : xs.length = n := by simpa using hown.1
 rcases hown.2 with ⟨rfl, rfl⟩ | ⟨g, cap, cur, rfl, hbg, hg, hnc, hcm, hcs, htake⟩
 ·have hx : xs = [] := List.eq_nil_of_length_eq_zero hxl
  subst hx
  obtain ⟨v', w', h1, h2, h3, _⟩ := Lib.run_append_own_string (P := P) w w.heap.size t u ty e i ht hu hi hz hsize hby _ _ _ (World.ownsRow_nil w w.heap.size e 1) s h63 hlen (Nat.le_refl _)
  refine ⟨v', w', h1, ⟨h2.1, ?_⟩, h3, fun g hg => ?_⟩
  ·rcases h2.2 with h | ⟨g, cap, cur, a1, a2, a3⟩
   ·exact .inl h
   ·exact .inr ⟨g, cap, cur, a1, Nat.zero_le _, a3⟩
  ·rcases h2.2 with ⟨rfl, _⟩ | ⟨g', cap, cur, rfl, a2, _⟩
   ·cases hg
   ·cases hg; exact .inr a2
 ·obtain ⟨v', w', h1, h2, h3, _⟩ := Lib.run_append_own_string (P := P) w 0 t u ty e i ht hu hi hz hsize hby _ _ _ hown s h63 hlen (Nat.zero_le _)
  refine ⟨v', w', h1, h2, h3, fun g' hg' => ?_⟩
  have hcs' : cur.size = cap := by simpa using hcs
  by_cases hroom : n + s.size ≤ cap
  ·have hr := Lib.run_append_room_string (P := P) w t u ty e i ht hu hi hsize g n cap cur hg s hroom (by omega)
   rw [hr] at h1
   cases h1
   cases hg'
   exact .inl rfl
  ·have holds : ∀ j u, xs[j]? = some u → w.cell? ((⟨g, 0, none⟩ : Addr).add j) = some u := hown.cells (g := g) rfl
   have hr := Lib.run_append_grow_string (P := P) w t u ty e i (.int .u8 0) ht hu hi hz ⟨g, 0, none⟩ n cap xs (by rw [hsize]; simpa using hxl) holds s (by omega) (by unfold maxLen at h63; omega) (by rw [hby]; exact growslice_fits (by omega) (by omega))
   rw [hr] at h1
   cases h1
   cases hg'
   exact .inr (Nat.le_refl _)
theorem wpList_append_row {P : Program} {ops : Array Oper} {rest : List Oper} {o : Oper} {a : Act} {w : World} {Q : Exit → Act → World → Prop} (hgd : o.guard = none) (sl x : Operand) (t u : TypeId)
  (ho : o.op = .call { callee := .builtin .append, args := #[sl, x], argTypes := #[t, u] }) (e : TypeId) (i : TypeInfo) (ht : P.underlying t = some (.slice e)) (hu : P.underlying u = some .string) (hi : P.info? e = some i) (hz : i.zero = some (.int .u8 0)) (hsize : i.size = 1) (hby : i.bytes = 1)
  (v : Value) (n : Nat) (xs : List Value) (hs : a.eval sl = v) (hown : w.ownsRow 0 e 1 v n xs) (s : ByteArray) (hx : a.eval x = .string s) (hlen : n + s.size ≤ 140737488355328)
  (h : ∀ v' w', w'.ownsRow 0 e 1 v' (n + s.size) (xs ++ Lib.strCells s) → w.grownBy w' v.ownBlock → (∀ g, v'.ownBlock = some g → v.ownBlock = some g ∨ w.heap.size ≤ g) → wpList P ops Q rest (a.put o.dst v') w') : wpList P ops Q (o :: rest) a w := by
 refine wpList_plain hgd fun K hK => ?_
 obtain ⟨v', w', hr, h2, h3, h4⟩ := append_row (P := P) w t u o.type e i ht hu hi hz hsize hby v n xs hown s hlen
 unfold Oper.wp execOp
 simp only [ho, resolve, invoke, builtin, Sem.run_bind, Sem.run_pure, Result.andThen_ok, List.map_toArray, List.map_cons, List.map_nil, hs, hx, hr]
 exact hK _ _ (h v' w' h2 h3 h4)
set_option maxHeartbeats 2000000 in
set_option maxRecDepth 100000 in
theorem writeString (c : Nat) (bs : List Value) (s : ByteArray) (w : World) (h : Bld c (.pointer none) bs w ∨ Bld c (.pointer (some ⟨c, 0, none⟩)) bs w) (hlen : bs.length + s.size ≤ 140737488355328) :
  Calls Tryz.prog 55 #[.pointer (some ⟨c, 0, none⟩), .string s] w fun e w' => e = .returned (.tuple #[.int .i64 s.size, .nilIface]) ∧ Bld c (.pointer (some ⟨c, 0, none⟩)) (bs ++ Lib.strCells s) w' ∧
   (w'.os = w.os ∧ w'.tape = w.tape ∧ w'.output = w.output ∧ w.heap.size ≤ w'.heap.size) ∧ (∀ k, k < w.heap.size → k ≠ c → some k ≠ bufOf c w → w'.heap[k]? = w.heap[k]?) ∧ (∀ k, bufOf c w' = some k → bufOf c w = some k ∨ w.heap.size ≤ k) := by
 obtain ⟨i0, hi, hz0, hz1, hz2⟩ := info_byte
 go_enter Tryz.func55, Tryz.ntmps55
 go_wp2_with (go_at_call 111; refine (copyCheck_any c bs _ h).mono ?_)
 rintro e w1 ⟨rfl, h1, hb1, hr1⟩
 obtain ⟨T, hT, hB, v, hbk, hown, hne⟩ := h1
 have c0 : w1.cell? ⟨c, 0, none⟩ = some (.pointer (some ⟨c, 0, none⟩)) := by rw [Lib.cell_of_heap hbk]; rfl
 have c1 : w1.cell? ⟨c, 1, none⟩ = some v := by rw [Lib.cell_of_heap hbk]; rfl
 go_wp2_with (at_builtin; refine wpList_append_row rfl _ _ 76 9 rfl 5 i0 Tryz.underlying76 Tryz.underlying9 hi hz0 hz1 hz2 _ _ _ rfl hown s rfl hlen ?_)
 intro v' w2 hown' hgrow hrow
 have hlt : c < w1.heap.size := by
  rcases Nat.lt_or_ge c w1.heap.size with h' | h'
  ·exact h'
  ·simp [Array.getElem?_eq_none h'] at hbk
 have hb2 : w2.heap[c]? = some (.cells #[.pointer (some ⟨c, 0, none⟩), v] T (0, 0)) := by
  rw [hgrow.block c hlt (fun e => hne e.symm)]
  exact hbk
 have d0 : w2.cell? ⟨c, 0, none⟩ = some (.pointer (some ⟨c, 0, none⟩)) := by rw [Lib.cell_of_heap hb2]; rfl
 have d1 : w2.cell? ⟨c, 1, none⟩ = some v := by rw [Lib.cell_of_heap hb2]; rfl
 have f1 : w2.frozen? ⟨c, 1, none⟩ = false := Lib.frozen_of_heap hb2 1
 obtain ⟨ao, n', cap, rfl⟩ : ∃ ao n' cap, v' = .slice ao n' cap := by
  rcases hown'.2 with ⟨hv, _⟩ | ⟨g, cap, cur, hv, _⟩
  ·exact ⟨_, _, _, hv⟩
  ·exact ⟨_, _, _, hv⟩
 go_wp2
 go_ret2
 have hr2 : bufOf c w1 = v.ownBlock := by simp [bufOf, hbk]
 have hcell : ∀ k, k ≠ c → (w2.setCell ⟨c, 1, none⟩ (.slice ao n' cap)).heap[k]? = w2.heap[k]? := fun k hk => Below.heap_setCell _ _ _ _ hk
 refine ⟨rfl, ?_, ⟨?_, ?_, ?_, ?_⟩, ?_, ?_⟩
 ·exact ⟨T, hT, Lib.BuilderAt.put (T := T) (e := 5) hB hb2 (bs' := bs ++ Lib.strCells s) (by simpa [Lib.strCells_length] using hown') (by rcases hT with rfl | rfl <;> decide)⟩
 ·exact hgrow.os.trans hb1.os
 ·exact hgrow.tape.trans hb1.tape
 ·exact hgrow.output.trans hb1.output
 ·have := hgrow.size
  have := hb1.size
  simp [World.setCell]
  omega
 ·intro k hk hkc hkr
  rw [hcell k hkc, hgrow.block k (Nat.lt_of_lt_of_le hk hb1.size) (by rw [← hr2, hr1]; exact hkr), hb1.block k hk (by simpa using hkc)]
 ·intro k hk
  have hk' : Value.ownBlock (.slice ao n' cap) = some k := by
   rw [← hk]
   simp [bufOf, World.setCell, Array.getElem?_modify, hb2]
  rcases hrow k hk' with h' | h'
  ·exact .inl (by rw [← hr1, hr2]; exact h')
  ·exact .inr (Nat.le_trans hb1.size h')
theorem grown_freeze (w : World) (g n : Nat) : w.grownBy (w.drew.freeze ⟨g, 0, none⟩ n) (some g) := by
 unfold World.freeze
 split
 ·exact ⟨rfl, rfl, rfl, Nat.le_refl _, fun _ _ _ => rfl⟩
 ·refine ⟨rfl, rfl, rfl, by simp, fun k _ hk => ?_⟩
  simp only [Array.getElem?_modify]
  rw [if_neg (fun e => hk (by simp [e]))]
  rfl
set_option maxHeartbeats 2000000 in
set_option maxRecDepth 100000 in
/-- String, where there is a byte at least: these are frozen in their row. -/
theorem stringOf (c : Nat) (l : List UInt8) (w : World) (h : Bld c (.pointer none) (Lib.byteCells l) w ∨ Bld c (.pointer (some ⟨c, 0, none⟩)) (Lib.byteCells l) w) (h0 : l ≠ []) :
  Calls Tryz.prog 25 #[.pointer (some ⟨c, 0, none⟩)] w fun e w' => e = .returned (.string ⟨l.toArray⟩) ∧ w.grownBy w' (bufOf c w) := by
 obtain ⟨p, T, hT, hB, v, hbk, hown, hne⟩ : ∃ p, Bld c p (Lib.byteCells l) w := by
  rcases h with h | h
  ·exact ⟨_, h⟩
  ·exact ⟨_, h⟩
 have hl0 : l.length ≠ 0 := by simpa using h0
 rw [Lib.byteCells_length] at hown
 obtain ⟨g, cap, cur, rfl, hbg, hg, hnc, hcm, hcs, htake⟩ : ∃ g cap cur, v = .slice (some ⟨g, 0, none⟩) l.length cap ∧ 0 ≤ g ∧ w.heap[g]? = some (.cells cur 5 (0, 0)) ∧ l.length ≤ cap ∧ cap ≤ maxLen ∧ cur.size = cap * 1 ∧ cur.toList.take (l.length * 1) = Lib.byteCells l := by
  rcases hown.2 with ⟨_, hz⟩ | ⟨g, cap, cur, hv, r⟩
  ·exact absurd hz hl0
  ·exact ⟨g, cap, cur, hv, r⟩
 have c1 : w.drew.cell? ⟨c, 1, none⟩ = some (.slice (some ⟨g, 0, none⟩) l.length cap) := by
  have : w.drew.heap[c]? = some (.cells #[p, .slice (some ⟨g, 0, none⟩) l.length cap] T (0, 0)) := hbk
  rw [Lib.cell_of_heap this]; rfl
 have hSD : (Builtin.unsafeSliceData_ #[76] 144 #[.slice (some ⟨g, 0, none⟩) l.length cap]).run Tryz.prog w.drew = .ok (.pointer (some ⟨g, 0, none⟩)) w.drew :=
  Lib.run_unsafeSliceData_row _ _ _ _ _ _ (by omega)
 have hUS : (Builtin.unsafeString_ #[144, 3] 9 #[.pointer (some ⟨g, 0, none⟩), .int .i64 l.length]).run Tryz.prog w.drew = .ok (.string ⟨l.toArray⟩) (w.drew.freeze ⟨g, 0, none⟩ l.length) := by
  refine Lib.run_unsafeString_row w.drew 144 3 9 5 Tryz.underlying144 (by kernel_rfl) g cur.size (by have hg' : w.drew.heap[g]? = some (.cells cur 5 (0, 0)) := hg; simp [World.shape?, hg']) l h0 (by omega) (by unfold maxLen at hcm; omega) ?_
  intro j x hx
  have := hown.cells (g := g) rfl j (.int .u8 x.toNat) (by simp [Lib.byteCells, hx])
  exact this
 have hrow : bufOf c w = some g := by simp [bufOf, hbk, Value.ownBlock]
 go_enter Tryz.func25, Tryz.ntmps25
 go_wp2
 go_region
 all_goals (go_wp2; go_ret; refine ⟨rfl, ?_⟩; rw [hrow]; exact grown_freeze w g _)
structure Hid (W0 : Base) (c : Nat) (W : Base) (S : ByteArray) : Prop where
 size : W0.w.heap.size ≤ W.w.heap.size
 os : W.w.os = W0.w.os
 tape : W.w.tape = W0.w.tape
 output : W.w.output = W0.w.output
 old : ∀ k, W0.old k → W.old k ∧ W.w.heap[k]? = W0.w.heap[k]?
 f0 : ∀ k ob, W.f0 k = some ob → W0.f0 k = some ob ∨ ¬ W0.old k
 cont : Bld c (.pointer none) (Lib.strCells S) W.w ∨ Bld c (.pointer (some ⟨c, 0, none⟩)) (Lib.strCells S) W.w
 mine : ∀ k, k = c ∨ bufOf c W.w = some k → W.old k ∧ ¬ W0.old k ∧ W.f0 k = none
structure Lnk (W0 W : Base) : Prop where
 size : W0.w.heap.size ≤ W.w.heap.size
 os : W.w.os = W0.w.os
 tape : W.w.tape = W0.w.tape
 output : W.w.output = W0.w.output
 old : ∀ k, W0.old k → W.old k ∧ W.w.heap[k]? = W0.w.heap[k]?
 f0 : ∀ k ob, W.f0 k = some ob → W0.f0 k = some ob ∨ ¬ W0.old k
theorem Hid.lnk {W0 W : Base} {c : Nat} {S : ByteArray} (h : Hid W0 c W S) : Lnk W0 W := ⟨h.size, h.os, h.tape, h.output, h.old, h.f0⟩
def HidO (W0 : Base) (c : Nat) (W : Base) (g : Option ByteArray) : Prop :=
 match g with
 | some S => Hid W0 c W S
 | none => Lnk W0 W
theorem HidO.lnk {W0 W : Base} {c : Nat} {g : Option ByteArray} (h : HidO W0 c W g) : Lnk W0 W := by
 cases g with
 | none => exact h
 | some S => exact Hid.lnk h
theorem Bld.at_row {c : Nat} {p : Value} {bs : List Value} {w w' : World} (h : Bld c p bs w) (hc : w'.heap[c]? = w.heap[c]?) (hr : ∀ k, bufOf c w = some k → w'.heap[k]? = w.heap[k]?) : Bld c p bs w' ∧ bufOf c w' = bufOf c w := by
 obtain ⟨T, hT, hB, v, hb, hown, hne⟩ := h
 have hrow : bufOf c w = v.ownBlock := by simp [bufOf, hb]
 refine ⟨⟨T, hT, hB, v, by rw [hc]; exact hb, ⟨hown.1, ?_⟩, hne⟩, by unfold bufOf; rw [hc]⟩
 rcases hown.2 with h | ⟨g, cap, cur, rfl, a2, a3, a4⟩
 ·exact .inl h
 ·exact .inr ⟨g, cap, cur, rfl, a2, by rw [hr g (by rw [hrow]; rfl)]; exact a3, a4⟩
theorem Bld.row_lt {c : Nat} {p : Value} {bs : List Value} {w : World} (h : Bld c p bs w) {k : Nat} (hk : bufOf c w = some k) : k < w.heap.size := by
 obtain ⟨T, hT, hB, v, hb, hown, hne⟩ := h
 have hrow : bufOf c w = v.ownBlock := by simp [bufOf, hb]
 rcases hown.2 with ⟨rfl, _⟩ | ⟨g, cap, cur, rfl, a2, a3, a4⟩
 ·rw [hrow] at hk; cases hk
 ·rw [hrow] at hk
  cases hk
  rcases Nat.lt_or_ge g w.heap.size with h' | h'
  ·exact h'
  ·rw [Array.getElem?_eq_none h'] at a3; cases a3
theorem Hid.now {W0 W : Base} {c : Nat} {S : ByteArray} (h : Hid W0 c W S) {w : World} (hs : Still W w) :
  (Bld c (.pointer none) (Lib.strCells S) w ∨ Bld c (.pointer (some ⟨c, 0, none⟩)) (Lib.strCells S) w) ∧ bufOf c w = bufOf c W.w := by
 have hc := hs.block c (h.mine c (.inl rfl)).1
 have hr : ∀ k, bufOf c W.w = some k → w.heap[k]? = W.w.heap[k]? := fun k hk => hs.block k (h.mine k (.inr hk)).1
 rcases h.cont with q | q
 ·exact ⟨.inl (q.at_row hc hr).1, (q.at_row hc hr).2⟩
 ·exact ⟨.inr (q.at_row hc hr).1, (q.at_row hc hr).2⟩
def allWr (kb : Nat) (hp : Tr AObj) : Nat → Bool
 | 0 => true
 | n + 1 => allWr kb hp n && match hp.get n with
  | some o => o.wr || n.beq kb
  | none => true
theorem allWr_get {kb : Nat} {hp : Tr AObj} : ∀ {n : Nat}, allWr kb hp n = true → ∀ b o, b < n → hp.get b = some o → o.wr = true ∨ b = kb
 | 0, _, b, o, hb, _ => by omega
 | n + 1, h, b, o, hb, ho => by
  simp only [allWr, Bool.and_eq_true] at h
  by_cases e : b = n
  ·subst e
   rw [ho] at h
   have := h.2
   simp only [Bool.or_eq_true] at this
   exact this.imp id Nat.eq_of_beq_eq_true
  ·exact allWr_get h.1 b o (by omega) ho
def none0 (hp : Tr AObj) (kb : Nat) : Bool :=
 match hp.get kb with
 | some (.cells [] false) => true
 | none => true
 | _ => false
theorem wr_old {ρ : Place} {O : Nat → Prop} {c s z : Nat} {o : AObj} {ob : Obj} (h : ORel ρ O c s z o ob) (hw : o.wr = true) : ¬ O c := by
 cases o with
 | cells l wr =>
  cases ob <;> try exact h.elim
  exact h.2.2.2.2 hw
 | iter st p =>
  cases ob <;> try exact h.elim
  exact h.2.2.1
 | map es ck =>
  cases ob <;> try exact h.elim
  exact h.2.1
 | miter m si la se =>
  cases ob <;> try exact h.elim
  exact h.2.2.2.1
theorem ORel.other {ρ : Place} {O O' : Nat → Prop} {c s z : Nat} {o : AObj} {ob : Obj} (h : ORel ρ O c s z o ob) (hw : o.wr = true) (hO : ¬ O' c) : ORel ρ O' c s z o ob := by
 cases o with
 | cells l wr =>
  cases ob <;> try exact h.elim
  exact ⟨h.1, h.2.1, h.2.2.1, h.2.2.2.1, fun _ => hO⟩
 | iter st p =>
  cases ob <;> try exact h.elim
  exact ⟨h.1, h.2.1, hO, h.2.2.2⟩
 | map es ck =>
  cases ob <;> try exact h.elim
  exact ⟨h.1, hO, h.2.2⟩
 | miter m si la se =>
  cases ob <;> try exact h.elim
  exact ⟨h.1, h.2.1, h.2.2.1, hO, h.2.2.2.2⟩
theorem strCells_append (a b : ByteArray) : Lib.strCells (a ++ b) = Lib.strCells a ++ Lib.strCells b := by
 simp [Lib.strCells, ByteArray.data_append]
def bldCall (kb : Nat) (next : GCall (Option ByteArray)) : GCall (Option ByteArray) := fun f args hp nx g K =>
 bif f.beq 55 then match args, g with
  | [.pointer (some ⟨b, o, none⟩), .string s], some g => bif b.beq kb && (o.beq 0 && (allWr kb hp nx && none0 hp kb)) then g.size + s.size ≤ 140737488355328 ∧ K (.ret (.tuple #[.int .i64 s.size, .nilIface])) hp nx (some (g ++ s)) else False
  | _, _ => False
 else bif f.beq 25 then match args, g with
  | [.pointer (some ⟨b, o, none⟩)], some g => bif b.beq kb && (o.beq 0 && (allWr kb hp nx && none0 hp kb)) then 0 < g.size ∧ K (.ret (.string g)) hp nx none else False
  | _, _ => False
 else next f args hp nx g K
theorem bldCall_ok {W0 : Base} {c kb : Nat} {next : GCall (Option ByteArray)} (hn : GCallOk Tryz.prog (HidO W0 c) kb (c, 0, 2) next) : GCallOk Tryz.prog (HidO W0 c) kb (c, 0, 2) (bldCall kb next) := by
 intro f args hp nx g0 K h W ρ w args' hI0 hkx hrel hargs
 unfold bldCall at h
 cases hf : f.beq 55 with
 | false =>
  rw [hf, cond_false] at h
  cases hf2 : f.beq 25 with
  | false => rw [hf2] at h; exact hn f args hp nx g0 K h W ρ w args' hI0 hkx hrel hargs
  | true =>
   rw [hf2, cond_true] at h
   have hf' := Nat.eq_of_beq_eq_true hf2
   subst hf'
   split at h
   case h_2 => exact h.elim
   rename_i b o g
   have hI : Hid W0 c W g := hI0
   cases hc : b.beq kb && (o.beq 0 && (allWr kb hp nx && none0 hp kb)) with
   | false => rw [hc] at h; exact h.elim
   | true =>
    rw [hc, cond_true] at h
    simp only [Bool.and_eq_true] at hc
    obtain ⟨hb, ho, hwr, hno⟩ := hc
    have hb := Nat.eq_of_beq_eq_true hb
    have ho := Nat.eq_of_beq_eq_true ho
    subst hb ho
    obtain ⟨hpos, hK⟩ := h
    cases hargs with
    | cons ha hrest =>
     cases hrest
     cases ha with
     | ptr hpl =>
      have hpl' := hpl
      rw [hkx] at hpl'
      cases hpl'
      obtain ⟨hcont, hrow⟩ := hI.now hrel.below
      have hne : g.data.toList ≠ [] := fun e => by
       have h1 : g.data.toList.length = g.size := by rw [Array.length_toList]; rfl
       rw [e] at h1
       simp at h1
       omega
      refine (stringOf c g.data.toList w hcont hne).mono ?_
      rintro e w' ⟨rfl, hg⟩
      have hmine := hI.mine
      rw [← hrow] at hmine
      have hgd : (⟨g.data.toList.toArray⟩ : ByteArray) = g := rfl
      have lt_of : ∀ {k : Nat} {ob : Obj}, w.heap[k]? = some ob → k < w.heap.size := fun {k ob} hk => by
       rcases Nat.lt_or_ge k w.heap.size with h' | h'
       ·exact h'
       ·rw [Array.getElem?_eq_none h'] at hk; cases hk
      have unch : ∀ k, k < w.heap.size → bufOf c w ≠ some k → w'.heap[k]? = w.heap[k]? := fun k h1 h3 => hg.block k h1 fun e => h3 e.symm
      have Wlt : ∀ k, W.old k → k < w.heap.size := fun k hk => Nat.lt_of_lt_of_le hk.1 hrel.below.size
      have hnot : ∀ k, ¬ W.old k → ¬ W0.old k := fun k hk h' => hk (hI.old k h').1
      have hcw : c < w.heap.size := (hrel.dom _ _ hkx).2
      have hcr : bufOf c w ≠ some c := by
       rcases hcont with ⟨_, _, _, v, hbk, _, hne⟩ | ⟨_, _, _, v, hbk, _, hne⟩
       ·simpa [bufOf, hbk] using hne
       ·simpa [bufOf, hbk] using hne
      refine ⟨_, hp, nx, none, ρ, ⟨W0.w, W0.mu, W0.f0, W.ds⟩, hK, ⟨_, rfl, .string _⟩, ⟨?_, rfl⟩, ⟨fun b x hb => ⟨(hrel.dom b x hb).1, Nat.lt_of_lt_of_le (hrel.dom b x hb).2 hg.size⟩, fun b o c' s' z ho1 hb1 => ?_, hrel.inj, hrel.fresh, ⟨?_, ?_, ?_, ?_, fun k hk => ?_⟩, fun k ob hk => ?_, hrel.apart, fun k ob hk => ?_⟩, .refl _ _ _⟩
      ·exact ⟨Nat.le_refl _, rfl, rfl, rfl, fun k hk => ⟨hk, rfl⟩, fun k ob hk => .inl hk⟩
      ·obtain ⟨ob, e1, e2⟩ := hrel.obj b o c' s' z ho1 hb1
       rcases allWr_get hwr b o (hrel.dom b _ hb1).1 ho1 with hw | hw
       ·have hno' := wr_old e2 hw
        exact ⟨ob, by rw [unch c' (lt_of e1) fun e => hno' (hmine c' (.inr e)).1]; exact e1, e2.other hw (hnot c' hno')⟩
       ·subst hw
        have hb' : ρ.pl b = some (c', s', z) := hb1
        rw [hkx] at hb'
        cases hb'
        have ho' : o = .cells [] false := by
         unfold none0 at hno
         rw [ho1] at hno
         split at hno
         ·rename_i q; cases q; rfl
         ·rename_i q; cases q
         ·cases hno
        subst ho'
        refine ⟨ob, by rw [unch _ hcw hcr]; exact e1, ?_⟩
        cases ob <;> try exact e2.elim
        exact ⟨e2.1, e2.2.1, e2.2.2.1, e2.2.2.2.1, fun h' => by cases h'⟩
      ·exact hg.os.trans (hrel.below.os.trans hI.os)
      ·exact hg.tape.trans (hrel.below.tape.trans hI.tape)
      ·exact hg.output.trans (hrel.below.output.trans hI.output)
      ·exact Nat.le_trans hI.size (Nat.le_trans hrel.below.size hg.size)
      ·have h1 := hI.old k hk
       show w'.heap[k]? = W0.w.heap[k]?
       rw [unch k (Wlt k h1.1) fun e => (hmine k (.inr e)).2.1 hk, hrel.below.block k h1.1]
       exact h1.2
      ·have e1 := hrel.frz k ob hk
       rw [unch k (lt_of e1) fun e => ?_]
       ·exact e1
       ·rcases hrel.frn k ob hk with q | q
        ·rw [(hmine k (.inr e)).2.2] at q; cases q
        ·exact q (hmine k (.inr e)).1
      ·rcases hrel.frn k ob hk with q | q
       ·exact hI.f0 k ob q
       ·exact .inr (hnot k q)
 | true =>
  rw [hf, cond_true] at h
  have hf' := Nat.eq_of_beq_eq_true hf
  subst hf'
  split at h
  case h_2 => exact h.elim
  rename_i b o s g
  have hI : Hid W0 c W g := hI0
  cases hc : b.beq kb && (o.beq 0 && (allWr kb hp nx && none0 hp kb)) with
  | false => rw [hc] at h; exact h.elim
  | true =>
   rw [hc, cond_true] at h
   simp only [Bool.and_eq_true] at hc
   obtain ⟨hb, ho, hwr, hno⟩ := hc
   have hb := Nat.eq_of_beq_eq_true hb
   have ho := Nat.eq_of_beq_eq_true ho
   subst hb ho
   obtain ⟨hlen, hK⟩ := h
   cases hargs with
   | cons ha hrest =>
    cases hrest with
    | cons hs hrest =>
     cases hrest
     cases hs
     cases ha with
     | ptr hpl =>
      have hpl' := hpl
      rw [hkx] at hpl'
      cases hpl'
      obtain ⟨hcont, hrow⟩ := hI.now hrel.below
      have hl : (Lib.strCells g).length + s.size ≤ 140737488355328 := by rw [Lib.strCells_length]; exact hlen
      refine (writeString c (Lib.strCells g) s w hcont hl).mono ?_
      rintro e w' ⟨rfl, hB, ⟨f1, f2, f3, f4⟩, f5, f6⟩
      have hcw : c < w.heap.size := (hrel.dom _ _ hkx).2
      have hmine := hI.mine
      rw [← hrow] at hmine
      have unch : ∀ k, k < w.heap.size → k ≠ c → bufOf c w ≠ some k → w'.heap[k]? = w.heap[k]? := fun k h1 h2 h3 => f5 k h1 h2 fun e => h3 e.symm
      have free : ∀ k, ¬ W.old k → k ≠ c ∧ bufOf c w ≠ some k := fun k hk => ⟨fun e => hk (hmine k (.inl e)).1, fun e => hk (hmine k (.inr e)).1⟩
      have frno : ∀ k, k = c ∨ bufOf c w = some k → ρ.fr k = none := fun k hk => by
       cases hfr : ρ.fr k with
       | none => rfl
       | some ob =>
        rcases hrel.frn k ob hfr with q | q
        ·rw [(hmine k hk).2.2] at q; cases q
        ·exact (q (hmine k hk).1).elim
      have lt_of : ∀ {k : Nat} {ob : Obj}, w.heap[k]? = some ob → k < w.heap.size := fun {k ob} hk => by
       rcases Nat.lt_or_ge k w.heap.size with h' | h'
       ·exact h'
       ·rw [Array.getElem?_eq_none h'] at hk; cases hk
      have frnew : ∀ k, bufOf c w' = some k → ρ.fr k = none := fun k hk => by
       rcases f6 k hk with q | q
       ·exact frno k (.inr q)
       ·cases hfr : ρ.fr k with
        | none => rfl
        | some ob => have := lt_of (hrel.frz k ob hfr); omega
      have hold : ∀ k, (⟨w', fun k => ¬ (W.old k ∨ k = c ∨ bufOf c w' = some k), ρ.fr, W.ds⟩ : Base).old k ↔ k < w'.heap.size ∧ (W.old k ∨ k = c ∨ bufOf c w' = some k) := fun k => by
       unfold Base.old
       dsimp only
       rw [Classical.not_not]
      have Wlt : ∀ k, W.old k → k < w.heap.size := fun k hk => Nat.lt_of_lt_of_le hk.1 hrel.below.size
      refine ⟨_, hp, nx, some (g ++ s), ρ, ⟨w', fun k => ¬ (W.old k ∨ k = c ∨ bufOf c w' = some k), ρ.fr, W.ds⟩, hK, ⟨_, rfl, .tuple rfl fun i v v' h1 h2 => ?_⟩, ⟨⟨?_, ?_, ?_, ?_, fun k hk => ⟨?_, ?_⟩, fun k ob hk => ?_, .inr ?_, fun k hk => ⟨?_, ?_, ?_⟩⟩, rfl⟩, ⟨fun b x hb => ⟨(hrel.dom b x hb).1, Nat.lt_of_lt_of_le (hrel.dom b x hb).2 f4⟩, fun b o c' s' z ho1 hb1 => ?_, hrel.inj, hrel.fresh, ⟨rfl, rfl, rfl, Nat.le_refl _, fun _ _ => rfl⟩, fun k ob hk => ?_, hrel.apart, fun k ob hk => .inl hk⟩, .refl _ _ _⟩
      ·rcases i with _ | _ | i
       ·cases h1; cases h2; exact .int _ _
       ·cases h1; cases h2; exact .nilIface
       ·simp at h1
      ·exact Nat.le_trans hI.size (Nat.le_trans hrel.below.size f4)
      ·exact f1.trans (hrel.below.os.trans hI.os)
      ·exact f2.trans (hrel.below.tape.trans hI.tape)
      ·exact f3.trans (hrel.below.output.trans hI.output)
      ·exact (hold k).2 ⟨Nat.lt_of_lt_of_le (Wlt k (hI.old k hk).1) f4, .inl (hI.old k hk).1⟩
      ·have h1 := hI.old k hk
       have h2 : k ≠ c := fun e => (hmine k (.inl e)).2.1 hk
       have h3 : bufOf c w ≠ some k := fun e => (hmine k (.inr e)).2.1 hk
       show w'.heap[k]? = _
       rw [unch k (Wlt k h1.1) h2 h3, hrel.below.block k h1.1]
       exact h1.2
      ·rcases hrel.frn k ob hk with q | q
       ·exact hI.f0 k ob q
       ·exact .inr fun h' => q (hI.old k h').1
      ·rw [strCells_append]; exact hB
      ·rcases hk with rfl | hk
       ·exact (hold _).2 ⟨Nat.lt_of_lt_of_le hcw f4, .inr (.inl rfl)⟩
       ·exact (hold _).2 ⟨hB.row_lt hk, .inr (.inr hk)⟩
      ·rcases hk with rfl | hk
       ·exact (hmine _ (.inl rfl)).2.1
       ·rcases f6 k hk with q | q
        ·exact (hmine _ (.inr q)).2.1
        ·intro h'
         have := h'.1
         have := hI.size
         have := hrel.below.size
         omega
      ·rcases hk with rfl | hk
       ·exact frno _ (.inl rfl)
       ·exact frnew k hk
      ·obtain ⟨ob, e1, e2⟩ := hrel.obj b o c' s' z ho1 hb1
       rcases allWr_get hwr b o (hrel.dom b _ hb1).1 ho1 with hw | hw
       ·have hno' := wr_old e2 hw
        have h2 := free c' hno'
        refine ⟨ob, by rw [unch c' (lt_of e1) h2.1 h2.2]; exact e1, e2.other hw fun h' => ?_⟩
        rcases ((hold c').1 h').2 with q | q | q
        ·exact hno' q
        ·exact h2.1 q
        ·rcases f6 c' q with q | q
         ·exact h2.2 q
         ·have := lt_of e1; omega
       ·subst hw
        have hb' : ρ.pl b = some (c', s', z) := hb1
        rw [hkx] at hb'
        cases hb'
        have ho' : o = .cells [] false := by
         unfold none0 at hno
         rw [ho1] at hno
         split at hno
         ·rename_i q; cases q; rfl
         ·rename_i q; cases q
         ·cases hno
        subst ho'
        obtain ⟨_, _, _, v, hbk, _⟩ := hB
        exact ⟨_, hbk, rfl, Nat.zero_le _, fun o _ h' => by simp at h', fun i v hv => by simp at hv, fun h' => by cases h'⟩
      ·have e1 := hrel.frz k ob hk
       have h2 : k ≠ c := fun e => by rw [frno k (.inl e)] at hk; cases hk
       have h3 : bufOf c w ≠ some k := fun e => by rw [frno k (.inr e)] at hk; cases hk
       rw [unch k (lt_of e1) h2 h3]
       exact e1
end Go.Proofs.YtojlhapbngcjkaaGreatDoor
noncomputable section
namespace Go.Proofs.YtojlhapbngcjkaaGreatDoor
open Go Go.RowKit
variable {γ : Type}
def inlG (P : Program) (inl : List FuncId) (next : GCall γ) : Nat → GCall γ
 | 0 => next
 | k + 1 => fun f args hp nx g K => bif inl.contains f then match P.funcs[f]? with
   | some fn => match fn.body with
    | some c => grun P (inlG P inl next k) (slotsN args fn) [] [] (fun _ _ _ _ => False) (fun st g' => match ares P st.hp st.tm fn with | some v => K (.ret v) st.hp st.nx g' | none => False) (fun v st g' => K (.pan v) st.hp st.nx g') 1000 (.code c) [] ⟨putArgs 0 args .e, hp, nx⟩ g
    | none => False
   | none => False
  else next f args hp nx g K
theorem inlG_ok {P : Program} {I : Base → γ → Prop} {kb : Nat} {kx : Nat × Nat × Nat} (hm : P.follows .mixedOrders = true) (hD : ∀ W D g, I W g → I ⟨W.w, W.mu, W.f0, D⟩ g) {inl : List FuncId} {next : GCall γ} (hn : GCallOk P I kb kx next) : ∀ k, GCallOk P I kb kx (inlG P inl next k)
 | 0 => hn
 | k + 1 => by
  intro f args hp nx g K h W ρ w args' hI hkx hrel hargs
  unfold inlG at h
  cases hi : inl.contains f with
  | false => rw [hi] at h; exact hn f args hp nx g K h W ρ w args' hI hkx hrel hargs
  | true =>
   rw [hi, cond_true] at h
   split at h
   case h_2 => exact h.elim
   rename_i fn hf
   split at h
   case h_2 => exact h.elim
   rename_i c hc
   refine calls_of_wp hf hc ?_
   have fin : ∀ st g', (match ares P st.hp st.tm fn with | some v => K (.ret v) st.hp st.nx g' | none => False) → ∀ W1 ρ' a w', I W1 g' ∧ W1.ds = W.bare.ds → SRel ρ' W1 (slotsN args fn) st a w' → Step ρ ρ' hp st.hp nx st.nx →
     a.defers = [] ∧ ∃ v', (results fn a.tmps).run P w' = .ok v' w' ∧ ∃ r hp' nx' g' ρ' W', K r hp' nx' g' ∧ r.Ends ρ' (Ending.returned v') ∧ (I W' g' ∧ W'.ds = W.ds) ∧ Rel ρ' W' hp' nx' w' ∧ Step ρ ρ' hp hp' nx nx' := by
    intro st g' hst W1 ρ' a w' hI1 hs hr
    split at hst
    case h_2 => exact hst.elim
    rename_i v hv
    obtain ⟨v', r1, r2⟩ := ares_sound hs.rel hs.frame hv
    exact ⟨hs.frame.defers.trans hI1.2, v', r1, .ret v, st.hp, st.nx, g', ρ', ⟨W1.w, W1.mu, W1.f0, W.ds⟩, hst, ⟨v', rfl, r2⟩, ⟨hD W1 W.ds g' hI1.1, rfl⟩, Rel.withDs _ hs.rel, hr⟩
   exact grun_sound (W0 := W.bare) (R := fun ρ' st => Step ρ ρ' hp st.hp nx st.nx) (inlG_ok hm hD hn k) hm (fun _ _ _ _ h k => h.trans k)
    (fun b k st g h => (vloop_false h).elim) (fun st g' hst W1 ρ' a w' hI1 _ hs hr => ⟨fin st g' hst W1 ρ' a w' hI1 hs hr, fin st g' hst W1 ρ' a w' hI1 hs hr⟩)
    (fun v st g' hst W1 ρ' v' a w' hI1 hv hs hr => ⟨hs.frame.defers.trans hI1.2, .pan v, st.hp, st.nx, g', ρ', ⟨W1.w, W1.mu, W1.f0, W.ds⟩, hst, ⟨v', rfl, hv⟩, ⟨hD W1 W.ds g' hI1.1, rfl⟩, Rel.withDs _ hs.rel, hr⟩) 1000 (.code c) [] _ g h W.bare ρ _ w ⟨hD W [] g hI, rfl⟩ hkx (start_rel rfl hrel.bare hargs fn) (.refl _ _ _)
end Go.Proofs.YtojlhapbngcjkaaGreatDoor

noncomputable section
namespace Go.Proofs.YtojlhapbngcjkaaGreatDoor
open Go Go.RowKit
set_option maxRecDepth 100000
set_option maxHeartbeats 8000000
theorem Lnk.back {W0 W : Base} (h : Lnk W0 W) {ρ : Place} {hp : Tr AObj} {nx : Nat} {w : World} (hr : Rel ρ W hp nx w) : Rel ρ W0 hp nx w := by
 have hnot : ∀ k, ¬ W.old k → ¬ W0.old k := fun k hk h' => hk (h.old k h').1
 refine ⟨hr.dom, fun b o c s z ho hb => ?_, hr.inj, hr.fresh, ⟨hr.below.os.trans h.os, hr.below.tape.trans h.tape, hr.below.output.trans h.output, Nat.le_trans h.size hr.below.size, fun k hk => (hr.below.block k (h.old k hk).1).trans (h.old k hk).2⟩, hr.frz, hr.apart, fun k ob hk => ?_⟩
 ·obtain ⟨ob, e1, e2⟩ := hr.obj b o c s z ho hb
  refine ⟨ob, e1, ?_⟩
  cases o with
  | cells l wr =>
   cases ob <;> try exact e2.elim
   exact ⟨e2.1, e2.2.1, e2.2.2.1, e2.2.2.2.1, fun hw => hnot c (e2.2.2.2.2 hw)⟩
  | iter st p =>
   cases ob <;> try exact e2.elim
   exact ⟨e2.1, e2.2.1, hnot c e2.2.2.1, e2.2.2.2⟩
  | map es ck =>
   cases ob <;> try exact e2.elim
   exact ⟨e2.1, hnot c e2.2.1, e2.2.2⟩
  | miter m si la se =>
   cases ob <;> try exact e2.elim
   exact ⟨e2.1, e2.2.1, e2.2.2.1, hnot c e2.2.2.2.1, e2.2.2.2.2⟩
 ·rcases hr.frn k ob hk with q | q
  ·exact h.f0 k ob q
  ·exact .inr (hnot k q)
def isAllocW (ops : Array Oper) (draw : Bool) : Option Tmp :=
 match draw, ops.toList with
 | false, [o] => match o.op, o.dst, o.guard with
  | .alloc t, some d, none => bif t.beq 80 || t.beq 78 then some d else none
  | _, _, _ => none
 | _, _ => none
theorem isAllocW_eq {ops : Array Oper} {draw : Bool} {d : Tmp} (h : isAllocW ops draw = some d) : ∃ o T, IsBT T ∧ draw = false ∧ ops = #[o] ∧ o.op = .alloc T ∧ o.dst = some d ∧ o.guard = none := by
 unfold isAllocW at h
 split at h
 case h_2 => cases h
 rename_i o ho
 split at h
 case h_2 => cases h
 rename_i t d' h1 h2 h3
 cases ht : (t.beq 80 || t.beq 78) with
 | false => rw [ht] at h; cases h
 | true =>
  rw [ht] at h
  cases h
  have hT : IsBT t := by
   rcases (Bool.or_eq_true _ _).mp ht with h | h
   ·exact .inl (Nat.eq_of_beq_eq_true h)
   ·exact .inr (Nat.eq_of_beq_eq_true h)
  exact ⟨o, t, hT, rfl, by apply Array.ext'; simpa using ho, h1, h2, h3⟩
theorem zero_writer {T : TypeId} (hT : IsBT T) : (pureRun Tryz.prog (zeroValue T)).map Value.cells = some #[.pointer none, .slice none 0 0] := by
 rcases hT with rfl | rfl <;> kernel_rfl
theorem alloc_writer {T : TypeId} (hT : IsBT T) (w : World) : (Instr.alloc T true (.tuple #[])).run Tryz.prog w = .ok (.pointer (some ⟨w.heap.size, 0, none⟩)) (pushed w (.cells #[.pointer none, .slice none 0 0] T)) := by
 obtain ⟨z, hz, hc⟩ := Option.map_eq_some_iff.1 (zero_writer hT)
 unfold Instr.alloc
 rw [bind_run hz]
 show ((newRow T z.cells) >>= fun a => pure (Value.pointer (some a))).run Tryz.prog w = _
 rw [hc]
 rfl
theorem start_hid {T : TypeId} (hT : IsBT T) {ρ : Place} {W : Base} {hp : Tr AObj} {nx : Nat} {w : World} (h : Rel ρ W hp nx w) :
  HidO W w.heap.size ⟨pushed w (.cells #[.pointer none, .slice none 0 0] T), fun k => ¬ (W.old k ∨ k = w.heap.size), ρ.fr, W.ds⟩ (some .empty) ∧
  Rel (ρ.set nx (w.heap.size, 0, 2)) ⟨pushed w (.cells #[.pointer none, .slice none 0 0] T), fun k => ¬ (W.old k ∨ k = w.heap.size), ρ.fr, W.ds⟩ (hp.put nx (some (.cells [] false))) (nx + 1) (pushed w (.cells #[.pointer none, .slice none 0 0] T)) := by
 have hsz : (pushed w (.cells #[.pointer none, .slice none 0 0] T)).heap.size = w.heap.size + 1 := by show (w.heap.push _).size = _; rw [Array.size_push]
 have hat := pushed_at w (.cells #[.pointer none, .slice none 0 0] T)
 have Wlt : ∀ k, W.old k → k < w.heap.size := fun k hk => Nat.lt_of_lt_of_le hk.1 h.below.size
 have hold : ∀ k, (⟨pushed w (.cells #[.pointer none, .slice none 0 0] T), fun k => ¬ (W.old k ∨ k = w.heap.size), ρ.fr, W.ds⟩ : Base).old k ↔ k < w.heap.size + 1 ∧ (W.old k ∨ k = w.heap.size) := fun k => by
  unfold Base.old
  dsimp only
  rw [Classical.not_not, hsz]
 have hfr : ρ.fr w.heap.size = none := by
  cases hf : ρ.fr w.heap.size with
  | none => rfl
  | some ob => have := h.frz _ _ hf; simp at this
 have hnw : ¬ W.old w.heap.size := fun h' => by have := Wlt _ h'; omega
 constructor
 ·refine ⟨?_, h.below.os, h.below.tape, h.below.output, fun k hk => ⟨(hold k).2 ⟨by have := Wlt k hk; omega, .inl hk⟩, ?_⟩, fun k ob hk => h.frn k ob hk, .inl ⟨T, hT, Nat.zero_le _, _, hat, World.ownsRow_nil _ _ _ _, by simp [Value.ownBlock]⟩, fun k hk => ?_⟩
  ·show _ ≤ (pushed w _).heap.size
   rw [hsz]
   have := h.below.size
   omega
  ·show (pushed w _).heap[k]? = _
   rw [pushed_lt w _ (Wlt k hk)]
   exact h.below.block k hk
  ·rcases hk with rfl | hk
   ·exact ⟨(hold _).2 ⟨by omega, .inr rfl⟩, hnw, hfr⟩
   ·have hk' : bufOf w.heap.size (pushed w (.cells #[.pointer none, .slice none 0 0] T)) = some k := hk
    unfold bufOf at hk'
    rw [hat] at hk'
    cases hk'
 ·have hr := (h.reserve (.cells [] false)).realize (b := nx) (o := .cells [] false) (ob := .cells #[.pointer none, .slice none 0 0] T) (z := 2) (Nat.lt_succ_self _) h.dom_none (by rw [Tr.get_put, if_pos rfl]) ⟨rfl, by decide, fun o _ => by simp, fun i v hv => by simp at hv, fun h' => by cases h'⟩
  refine ⟨hr.dom, fun b o c s z ho hb => ?_, hr.inj, hr.fresh, ⟨rfl, rfl, rfl, Nat.le_refl _, fun _ _ => rfl⟩, hr.frz, hr.apart, fun k ob hk => .inl hk⟩
  obtain ⟨ob, e1, e2⟩ := hr.obj b o c s z ho hb
  refine ⟨ob, e1, ?_⟩
  by_cases e : b = nx
  ·subst e
   rw [Tr.get_put, if_pos rfl] at ho
   cases ho
   cases ob <;> try exact e2.elim
   exact ⟨e2.1, e2.2.1, e2.2.2.1, e2.2.2.2.1, fun h' => by cases h'⟩
  ·have hb' : ρ b = some (c, s, z) := by
    rw [Place.set_other e] at hb
    exact hb
   have hc := (h.dom b _ hb').2
   cases o with
   | cells l wr =>
    cases ob <;> try exact e2.elim
    exact ⟨e2.1, e2.2.1, e2.2.2.1, e2.2.2.2.1, fun hw h' => ((hold c).1 h').2.elim (e2.2.2.2.2 hw) (by intro e; dsimp only at hc; omega)⟩
   | iter st p =>
    cases ob <;> try exact e2.elim
    exact ⟨e2.1, e2.2.1, fun h' => ((hold c).1 h').2.elim e2.2.2.1 (by intro e; dsimp only at hc; omega), e2.2.2.2⟩
   | map es ck =>
    cases ob <;> try exact e2.elim
    exact ⟨e2.1, fun h' => ((hold c).1 h').2.elim e2.2.1 (by intro e; dsimp only at hc; omega), e2.2.2⟩
   | miter m si la se =>
    cases ob <;> try exact e2.elim
    exact ⟨e2.1, e2.2.1, e2.2.2.1, fun h' => ((hold c).1 h').2.elim e2.2.2.2.1 (by intro e; dsimp only at hc; omega), e2.2.2.2.2⟩
def onNone (g : Option ByteArray) (X : Prop) : Prop := match g with | none => X | some _ => False
theorem onNone_eq {g : Option ByteArray} {X : Prop} (h : onNone g X) : g = none ∧ X := by
 cases g with
 | none => exact ⟨rfl, h⟩
 | some s => exact h.elim
def wrun (P : Program) (pc : PCall) (mk : Nat → GCall (Option ByteArray)) (n : Nat) (Fin : AS → Prop) (X : Value → AS → Prop) : Nat → VM → List Fr → AS → Prop
 | 0, _, _, _ => False
 | f + 1, .normal, k, st => match k with
  | [] => Fin st
  | .seq y :: k' => wrun P pc mk n Fin X f (.code y) k' st
  | .block _ :: k' => wrun P pc mk n Fin X f .normal k' st
  | .loop b :: k' => wrun P pc mk n Fin X f (.code b) (.loop b :: k') st
 | f + 1, .exit id, k, st => match k with
  | [] => False
  | .block j :: k' => bif id.beq j then wrun P pc mk n Fin X f .normal k' st else wrun P pc mk n Fin X f (.exit id) k' st
  | _ :: k' => wrun P pc mk n Fin X f (.exit id) k' st
 | _ + 1, .ret, _, st => Fin st
 | f + 1, .code c, k, st => match c with
  | .skip | .label _ => wrun P pc mk n Fin X f .normal k st
  | .region _ ops draw => match isAllocW ops draw with
   | some d => match aput n st.tm (some d) (.pointer (some ⟨st.nx, 0, none⟩)) with
    | some tm => grun P (mk st.nx) n [] [] (fun _ _ _ _ => False) (fun st g => onNone g (Fin st)) (fun v st g => onNone g (X v st)) 3000 .normal k ⟨tm, st.hp.put st.nx (some (.cells [] false)), st.nx + 1⟩ (some .empty)
    | none => False
   | none => vregionP P pc n ops draw st (fun st' => wrun P pc mk n Fin X f .normal k st') X
  | .seq x y => wrun P pc mk n Fin X f (.code x) (.seq y :: k) st
  | .cond c x y => match aev st.tm c with
   | some (.bool b) => pIf b (wrun P pc mk n Fin X f (.code x) k st) (wrun P pc mk n Fin X f (.code y) k st)
   | _ => False
  | .block id b => wrun P pc mk n Fin X f (.code b) (.block id :: k) st
  | .loop b => wrun P pc mk n Fin X f (.code b) (.loop b :: k) st
  | .exit id => wrun P pc mk n Fin X f (.exit id) k st
  | .ret => wrun P pc mk n Fin X f .ret k st
  | _ => False
theorem wrun_sound {pc : PCall} {mk : Nat → GCall (Option ByteArray)} {W : Base} {n : Nat} {Fin : AS → Prop} {X : Value → AS → Prop} {R : Place → AS → Prop} {Q : Exit → Act → World → Prop} (hcall : PCallOk Tryz.prog pc) (hmk : ∀ W0 c kb, GCallOk Tryz.prog (HidO W0 c) kb (c, 0, 2) (mk kb)) (hm : Tryz.prog.follows .mixedOrders = true)
  (hR : ∀ ρ st ρ' st', R ρ st → Step ρ ρ' st.hp st'.hp st.nx st'.nx → R ρ' st')
  (hF : ∀ st, Fin st → ∀ ρ a w, SRel ρ W n st a w → R ρ st → Q .normal a w ∧ Q .ret a w)
  (hX : ∀ v st, X v st → ∀ ρ v' a w, VR ρ v v' → SRel ρ W n st a w → R ρ st → Q (.panic [{ v := v', recovered := false }]) a w) :
  ∀ (f : Nat) (m : VM) (k : List Fr) (st : AS), wrun Tryz.prog pc mk n Fin X f m k st → ∀ ρ a w, SRel ρ W n st a w → R ρ st → (match m with
   | .code c => c.wp Tryz.prog (contQ Tryz.prog Q k) a w
   | .normal => contQ Tryz.prog Q k .normal a w
   | .exit id => contQ Tryz.prog Q k (.exit id) a w
   | .ret => contQ Tryz.prog Q k .ret a w) := by
 intro f
 induction f with
 | zero => intro m k st h; simp only [wrun] at h
 | succ f ih =>
  intro m k st h ρ a w hs hr
  cases m with
  | normal =>
   simp only [wrun] at h
   dsimp only
   cases k with
   | nil => exact (hF st h ρ a w hs hr).1
   | cons x k =>
    cases x with
    | seq y => exact ih (.code y) k st h ρ a w hs hr
    | block id => exact ih .normal k st h ρ a w hs hr
    | loop b =>
     exact loop_round (ih (.code b) (.loop b :: k) st h ρ a w hs hr)
  | exit id =>
   simp only [wrun] at h
   dsimp only
   cases k with
   | nil => exact h.elim
   | cons x k =>
    cases x with
    | seq y => exact ih (.exit id) k st h ρ a w hs hr
    | block j =>
     show Exit.inBlock j (contQ Tryz.prog Q k) (.exit id) a w
     simp only [Exit.inBlock]
     dsimp only at h
     cases hj : id.beq j with
     | true =>
      rw [hj] at h
      rw [if_pos (Nat.eq_of_beq_eq_true hj)]
      exact ih .normal k st h ρ a w hs hr
     | false =>
      rw [hj] at h
      rw [if_neg (fun e => by subst e; simp at hj)]
      exact ih (.exit id) k st h ρ a w hs hr
    | loop b => exact ih (.exit id) k st h ρ a w hs hr
  | ret =>
   simp only [wrun] at h
   exact contQ_ret (hF st h ρ a w hs hr).2
  | code c =>
   simp only [wrun] at h
   dsimp only
   cases c with
   | skip => exact wp_skip (ih .normal k st h ρ a w hs hr)
   | label l => exact wp_label (ih .normal k st h ρ a w hs hr)
   | region id ops draw =>
    dsimp only at h
    split at h
    ·rename_i d hd
     split at h
     case h_2 => exact h.elim
     rename_i tm htm
     obtain ⟨o, T, hT, rfl, rfl, ho, hdst, hgd⟩ := isAllocW_eq hd
     refine wp_region ?_
     show wpOps Tryz.prog #[o] _ [0] a w
     rw [wpOps_cons]
     unfold wpOp
     have e0 : (#[o])[0]? = some o := rfl
     simp only [e0]
     have hw : ∀ q, Region.wanted o q = true := fun q => by unfold Region.wanted; rw [hgd]
     rw [hw, if_pos rfl]
     refine .inl ?_
     obtain ⟨dst, op, type, pos, after, guard⟩ := o
     dsimp only at ho hdst hgd
     subst ho hdst hgd
     have hrun : (execOp a.eval ⟨some d, .alloc T, type, pos, after, none⟩).run Tryz.prog w = .ok (.value (.pointer (some ⟨w.heap.size, 0, none⟩))) (pushed w (.cells #[.pointer none, .slice none 0 0] T)) := value_run (alloc_writer hT w)
     unfold Oper.wp
     rw [hrun]
     show contQ Tryz.prog Q k .normal _ _
     have hnone := hs.rel.dom_none
     have hle := Place.le_set (x := (w.heap.size, 0, 2)) hnone
     have hstep : Step ρ (ρ.set st.nx (w.heap.size, 0, 2)) st.hp (st.hp.put st.nx (some (.cells [] false))) st.nx (st.nx + 1) := ⟨hle, Nat.le_succ _, fun b hb hr => ⟨by rw [Place.set_other (by omega)]; exact hr, by rw [Tr.get_put, if_neg (by omega)]⟩⟩
     obtain ⟨hhid, hrel⟩ := start_hid hT hs.rel
     refine grun_sound (I := HidO W w.heap.size) (kb := st.nx) (kx := (w.heap.size, 0, 2)) (W0 := ⟨pushed w (.cells #[.pointer none, .slice none 0 0] T), fun k => ¬ (W.old k ∨ k = w.heap.size), ρ.fr, W.ds⟩) (R := fun ρ' st' => Step (ρ.set st.nx (w.heap.size, 0, 2)) ρ' (st.hp.put st.nx (some (.cells [] false))) st'.hp (st.nx + 1) st'.nx)
      (hmk W w.heap.size st.nx) hm (fun _ _ _ _ h k => h.trans k) (fun b k st g h => (vloop_false h).elim) (fun st' g hst W' ρ' a' w' hI hkx hs' hr' => ?_) (fun v st' g hst W' ρ' v' a' w' hI hv hs' hr' => ?_) 3000 .normal k _ _ h _ _ _ _ ⟨hhid, rfl⟩ (Place.set_same _ _ _) ⟨hrel, aput_sound (hs.frame.mono hle) htm (.ptr (Place.set_same _ _ _))⟩ (.refl _ _ _)
     ·obtain ⟨rfl, hst⟩ := onNone_eq hst
      exact hF st' hst ρ' a' w' ⟨(HidO.lnk hI.1).back hs'.rel, by have := hs'.frame; rw [hI.2] at this; exact this⟩ (hR _ _ _ _ hr (hstep.trans hr'))
     ·obtain ⟨rfl, hst⟩ := onNone_eq hst
      exact hX v st' hst ρ' v' a' w' hv ⟨(HidO.lnk hI.1).back hs'.rel, by have := hs'.frame; rw [hI.2] at this; exact this⟩ (hR _ _ _ _ hr (hstep.trans hr'))
    ·exact vregionP_sound hcall hm hs h (fun st' hK a' w' ρ' g1 g2 => ih .normal k st' hK ρ' a' w' g1 (hR _ _ _ _ hr g2)) (fun v st' hK v' a' w' ρ' g0 g1 g2 => contQ_panic (hX v st' hK ρ' v' a' w' g0 g1 (hR _ _ _ _ hr g2)))
   | seq x y => exact wp_seq (ih (.code x) (.seq y :: k) st h ρ a w hs hr)
   | cond c x y =>
    dsimp only at h
    split at h
    ·rename_i b hc
     have := hs.frame.eval hc
     cases b with
     | true =>
      refine wp_cond_true (c := c) ?_ (ih (.code x) k st h ρ a w hs hr)
      generalize a.eval c = z at this
      cases this
      rfl
     | false =>
      refine wp_cond_false (c := c) ?_ (ih (.code y) k st h ρ a w hs hr)
      generalize a.eval c = z at this
      cases this
      rfl
    ·exact h.elim
   | block id b => exact wp_block (ih (.code b) (.block id :: k) st h ρ a w hs hr)
   | loop b =>
    exact loop_of (loop_round (ih (.code b) (.loop b :: k) st h ρ a w hs hr))
   | exit id => exact wp_exit (ih (.exit id) k st h ρ a w hs hr)
   | ret => exact wp_ret (ih .ret k st h ρ a w hs hr)
   | goto l => exact h.elim
   | refuse y => exact h.elim
   | scope b => exact h.elim
   | rangeFunc f ps x y => exact h.elim
theorem HidO.ds {W0 : Base} {c : Nat} (W : Base) (D : List Deferred) (g : Option ByteArray) (h : HidO W0 c W g) : HidO W0 c ⟨W.w, W.mu, W.f0, D⟩ g := by
 cases g with
 | none => exact ⟨h.size, h.os, h.tape, h.output, h.old, h.f0⟩
 | some S => exact ⟨h.size, h.os, h.tape, h.output, h.old, h.f0, h.cont, h.mine⟩
def mkW (inl : List FuncId) (pc : PCall) (kb : Nat) : GCall (Option ByteArray) := inlG Tryz.prog inl (bldCall kb (ofP pc)) 6
theorem mkW_ok {inl : List FuncId} {pc : PCall} (hm : Tryz.prog.follows .mixedOrders = true) (h : PCallOk Tryz.prog pc) (W0 : Base) (c kb : Nat) : GCallOk Tryz.prog (HidO W0 c) kb (c, 0, 2) (mkW inl pc kb) :=
 inlG_ok hm HidO.ds (bldCall_ok (ofP_ok h)) 6
def vcW (pc : PCall) (mk : Nat → GCall (Option ByteArray)) (f : FuncId) (args : List Value) (Post : Out → List (List Value) → Prop) : Prop :=
 wrun Tryz.prog pc mk (slotsN args (fnAt Tryz.prog f)) (finX Tryz.prog (fnAt Tryz.prog f) 0 (xpost 0 Post)) (panX 0 (xpost 0 Post)) 3000 (.code (codeOf (fnAt Tryz.prog f))) [] ⟨putArgs 0 args .e, hpOf [], 0⟩
set_option maxRecDepth 100000 in
theorem spec_W {pc : PCall} {mk : Nat → GCall (Option ByteArray)} (hcall : PCallOk Tryz.prog pc) (hmk : ∀ W0 c kb, GCallOk Tryz.prog (HidO W0 c) kb (c, 0, 2) (mk kb)) (hm : Tryz.prog.follows .mixedOrders = true) {f : FuncId} (hf : enters Tryz.prog f = true) {args : List Value} {Post : Out → List (List Value) → Prop}
  (h : vcW pc mk f args Post) : SpecX Tryz.prog f 0 (hpOf []) args (xpost 0 Post) := by
 intro W ρ w args' hpl hrel hargs
 obtain ⟨hf', hb'⟩ := all_of f hf
 suffices hb : Calls Tryz.prog f args'.toArray w fun e w' => ∃ r hp' nx' ρ', xpost 0 Post r hp' ∧ r.Ends0 ρ' e ∧ Rel ρ' W.bare hp' nx' w' ∧ StepG 0 ρ ρ' from hb.mono fun e w' ⟨r, hp', nx', ρ', g1, g2, g3, g4⟩ => ⟨r, hp', nx', ρ', g1, g2, g3.unbare, g4⟩
 refine calls_of_wp hf' hb' ?_
 unfold vcW at h
 have hst := start_rel (W := W.bare) rfl hrel.bare hargs (fnAt Tryz.prog f)
 exact wrun_sound (W := W.bare) (R := fun ρ' _ => StepG 0 ρ ρ') (Q := FinQX Tryz.prog (fnAt Tryz.prog f) W.bare 0 ρ (xpost 0 Post)) hcall hmk hm (fun _ _ _ _ h k => h.step k)
  (fun st hst ρ' a w hs hr => finX_ok hst rfl hpl hs hr) (fun v st hst ρ' v' a w hv hs hr => panX_ok hst rfl hpl hv hs hr) 3000 (.code _) [] _ h ρ _ w hst (.refl _ _)
end Go.Proofs.YtojlhapbngcjkaaGreatDoor
noncomputable section
namespace Go.Proofs.YtojlhapbngcjkaaGreatDoor
open Go Go.RowKit
variable {γ : Type}
section
variable {P : Program} {Is : (Base → γ → Prop) → Nat × Nat × Nat → Prop} {gc : GCall γ} {kb : Nat}
end
end Go.Proofs.YtojlhapbngcjkaaGreatDoor

noncomputable section
namespace Go.Proofs.YtojlhapbngcjkaaGreatDoor
open Go Go.RowKit
set_option maxRecDepth 100000
set_option maxHeartbeats 8000000
namespace B
def retV (Post : Value → Prop) (r : Out) (_ : List (List Value)) : Prop := match r with | .ret v => Post v | .pan _ => False
theorem pure_of_X {P : Program} {f : FuncId} {args : List Value} {Post : Value → Prop} (h : SpecX P f 0 (hpOf []) args (xpost 0 (retV Post))) : Pure P f args Post := by
 intro W ρ w args' hrel hargs
 refine (h W ρ w args' (fun b hb => by omega) hrel hargs).mono ?_
 rintro e w' ⟨r, hp', nx', ρ', hP, hE, hR, hS⟩
 unfold xpost at hP
 obtain ⟨_, hv⟩ := hP
 cases r with
 | pan v => exact hv.elim
 | ret v =>
 obtain ⟨v', e1, e2⟩ := hE
 exact ⟨v, hp', nx', v', ρ', hv, e1, e2, hR, hS⟩
end B
theorem Rel.tocell {ρ : Place} {W : Base} {hp : Tr AObj} {nx : Nat} {w : World} (h : Rel ρ W hp nx w) {bb j : Nat} {l : List Value} {u : Value} (hg : hp.get bb = some (.cells l true))
  (hu : ∀ c s z cs t fr, ρ bb = some (c, s, z) → w.heap[c]? = some (.cells cs t fr) → ∃ v', cs[s + j]? = some v' ∧ VR ρ u v') : Rel ρ W (hp.put bb (some (.cells (l.set j u) true))) nx w := by
 have sub : ∀ k o, (hp.put bb (some (.cells (l.set j u) true))).get k = some o → ∃ o', hp.get k = some o' ∧ (o.wr = true → o'.wr = true) := fun k o hk => by
  rw [Tr.get_put] at hk
  split at hk
  ·next e => subst e; cases hk; exact ⟨_, hg, fun h => h⟩
  ·exact ⟨o, hk, fun h => h⟩
 refine ⟨h.dom, fun b o c s z ho hb => ?_, fun b b' x x' o o' h1 h2 => ?_, fun b hb => ?_, h.below, h.frz, fun b o c s z ho hw hb => ?_, h.frn⟩
 ·rw [Tr.get_put] at ho
  split at ho
  ·next e =>
   subst e
   cases ho
   obtain ⟨ob, e1, e2⟩ := h.obj _ _ c s z hg hb
   refine ⟨ob, e1, ?_⟩
   cases ob <;> try exact e2.elim
   rename_i cs t fr
   obtain ⟨a1, a2, a3, a4, a5⟩ := e2
   refine ⟨a1, by rw [List.length_set]; exact a2, a3, fun i v hv => ?_, a5⟩
   by_cases hij : i = j
   ·subst hij
    rw [List.getElem?_set] at hv
    simp only [if_true] at hv
    split at hv
    ·cases hv
     exact hu c s z cs t fr hb e1
    ·cases hv
   ·rw [List.getElem?_set_ne (fun e => hij e.symm)] at hv
    exact a4 i v hv
  ·exact h.obj b o c s z ho hb
 ·obtain ⟨q, e, _⟩ := sub b o h1
  obtain ⟨q', e', _⟩ := sub b' o' h2
  exact h.inj b b' x x' q q' e e'
 ·rw [Tr.get_put]
  split
  ·next e => subst e; rw [h.fresh _ hb] at hg; cases hg
  ·exact h.fresh b hb
 ·obtain ⟨q, e, f⟩ := sub b o ho
  exact h.apart b q c s z e (f hw) hb
def okL (hp : Tr AObj) (v : Value) : Bool :=
 match v with
 | .slice (some ⟨b, o, none⟩) n sz => match hp.get b with
  | some (.cells l _) => (o + n * sz).ble l.length && (l.drop o).all nl1
  | _ => true
 | _ => true
theorem frzL_ok {P : Program} {N : Nat} {t : TypeId} {hp hp' : Tr AObj} {v u : Value} {ob : Prop} (h : frzL P N t hp v = some (u, hp', ob)) (hk : okL hp v = true) : ob := by
 have base : ∀ {v : Value}, (bif nl1 v then some (v, hp, True) else none) = some (u, hp', ob) → ob := fun {v} h => by
  cases hn : nl1 v with
  | false => rw [hn] at h; cases h
  | true => rw [hn] at h; cases h; trivial
 unfold frzL at h
 split at h
 ·rename_i e b o n sz hu
  split at h
  case h_2 => cases h
  rename_i z l hz hg
  cases hc : z.beq sz && N.ble b with
  | false => rw [hc] at h; cases h
  | true =>
   rw [hc] at h
   cases h
   simp only [okL, hg, Bool.and_eq_true] at hk
   exact ⟨Nat.le_of_ble_eq_true hk.1, fun v hv => List.all_eq_true.1 hk.2 v hv⟩
 ·split at h
  case h_2 => cases h
  cases h
  trivial
 ·exact base h
def okC (P : Program) (N : Nat) : List TypeId → List Value → Tr AObj → Bool
 | t :: ts, v :: vs, hp => okL hp v && match frzL P N t hp v with
  | some (_, hp1, _) => okC P N ts vs hp1
  | none => true
 | _, _, _ => true
theorem frzC_ok {P : Program} {N : Nat} : ∀ {ts : List TypeId} {vs us : List Value} {hp hp' : Tr AObj} {ob : Prop}, frzC P N ts vs hp = some (us, hp', ob) → okC P N ts vs hp = true → ob
 | [], [], us, hp, hp', ob, h, _ => by simp only [frzC] at h; cases h; trivial
 | [], _ :: _, us, hp, hp', ob, h, _ => by simp [frzC] at h
 | _ :: _, [], us, hp, hp', ob, h, _ => by simp [frzC] at h
 | t :: ts, v :: vs, us, hp, hp', ob, h, hk => by
  simp only [frzC] at h
  split at h
  case h_2 => cases h
  rename_i u hp1 o1 h1
  split at h
  case h_2 => cases h
  rename_i us0 hp2 o2 h2
  cases h
  simp only [okC, Bool.and_eq_true, h1] at hk
  exact ⟨frzL_ok h1 hk.1, frzC_ok h2 hk.2⟩
def okT (P : Program) (N : Nat) (t : TypeId) (hp : Tr AObj) (v : Value) : Bool :=
 match v with
 | .agg c => match leaves P 20 t with
  | some ts => okC P N ts c.toList hp
  | none => true
 | v => okL hp v
theorem frzT_ok {P : Program} {N : Nat} {t : TypeId} {hp hp' : Tr AObj} {v u : Value} {ob : Prop} (h : frzT P N t hp v = some (u, hp', ob)) (hk : okT P N t hp v = true) : ob := by
 unfold frzT at h
 unfold okT at hk
 split at h
 ·split at h
  case h_2 => cases h
  rename_i ts hl
  split at h
  case h_2 => cases h
  rename_i us hp2 ob2 h2
  cases h
  dsimp only at hk
  rw [hl] at hk
  exact frzC_ok h2 hk
 ·rename_i hne
  refine frzL_ok h ?_
  split at hk
  ·rename_i c
   exact (hne c rfl).elim
  ·exact hk
def okTs (P : Program) (N : Nat) : List TypeId → List Value → Tr AObj → Bool
 | t :: ts, v :: vs, hp => okT P N t hp v && match frzT P N t hp v with
  | some (_, hp1, _) => okTs P N ts vs hp1
  | none => true
 | _, _, _ => true
theorem frzTs_ok {P : Program} {N : Nat} : ∀ {ts : List TypeId} {vs us : List Value} {hp hp' : Tr AObj} {ob : Prop}, frzTs P N ts vs hp = some (us, hp', ob) → okTs P N ts vs hp = true → ob
 | [], [], us, hp, hp', ob, h, _ => by simp only [frzTs] at h; cases h; trivial
 | [], _ :: _, us, hp, hp', ob, h, _ => by simp [frzTs] at h
 | _ :: _, [], us, hp, hp', ob, h, _ => by simp [frzTs] at h
 | t :: ts, v :: vs, us, hp, hp', ob, h, hk => by
  simp only [frzTs] at h
  split at h
  case h_2 => cases h
  rename_i u hp1 o1 h1
  split at h
  case h_2 => cases h
  rename_i us0 hp2 o2 h2
  cases h
  simp only [okTs, Bool.and_eq_true, h1] at hk
  exact ⟨frzT_ok h1 hk.1, frzTs_ok h2 hk.2⟩
def deepB (b : Nat) : List Nat → Tr AObj → Option (Tr AObj)
 | [], hp => some hp
 | j :: js, hp => match hp.get b with
  | some (.cells l true) => match l[j]? with
   | some (.slice (some ⟨b', o', none⟩) n' sz') => match frzS 0 hp (.slice (some ⟨b', o', none⟩) n' sz') with
    | some (u, hp1, _) => bif okL hp (.slice (some ⟨b', o', none⟩) n' sz') && !(b.beq b') then deepB b js (hp1.put b (some (.cells (l.set j u) true))) else none
    | none => none
   | some _ => deepB b js hp
   | none => none
  | _ => none
theorem frzS_own {hp hp1 : Tr AObj} {b o n sz : Nat} {u : Value} {ob : Prop} (h : frzS 0 hp (.slice (some ⟨b, o, none⟩) n sz) = some (u, hp1, ob)) (hk : okL hp (.slice (some ⟨b, o, none⟩) n sz) = true) : ob ∧ hp1 = hp.put b none := by
 unfold frzS at h
 dsimp only at h
 split at h
 case h_2 => cases h
 rename_i l hg
 rw [show Nat.ble 0 b = true from Nat.ble_eq_true_of_le (Nat.zero_le b), cond_true] at h
 cases h
 simp only [okL, hg, Bool.and_eq_true] at hk
 exact ⟨⟨Nat.le_of_ble_eq_true hk.1, fun v hv => List.all_eq_true.1 hk.2 v hv⟩, rfl⟩
theorem deepB_sound {b : Nat} {W : Base} {nx : Nat} {w : World} : ∀ {js : List Nat} {hp hp' : Tr AObj} {ρ : Place}, Rel ρ W hp nx w → deepB b js hp = some hp' → ∃ ρ', Rel ρ' W hp' nx w ∧ ρ.le ρ'
 | [], hp, hp', ρ, h, hd => by simp only [deepB] at hd; cases hd; exact ⟨ρ, h, .refl ρ⟩
 | j :: js, hp, hp', ρ, h, hd => by
  simp only [deepB] at hd
  split at hd
  case h_2 => cases hd
  rename_i l hg
  split at hd
  case h_3 => cases hd
  case h_2 => exact deepB_sound h hd
  rename_i b' o' n' sz' hj
  split at hd
  case h_2 => cases hd
  rename_i u hp1 ob hf
  cases hc : okL hp (.slice (some ⟨b', o', none⟩) n' sz') && !(b.beq b') with
  | false => rw [hc] at hd; cases hd
  | true =>
   rw [hc, cond_true] at hd
   simp only [Bool.and_eq_true, Bool.not_eq_true'] at hc
   obtain ⟨hob, rfl⟩ := frzS_own hf hc.1
   have hne : ¬ b = b' := fun e => by rw [e, Nat.beq_refl] at hc; cases hc.2
   have h1 : (hp.put b' none).get b = some (.cells l true) := by rw [Tr.get_put, if_neg hne, hg]
   cases hρ : ρ b with
   | none =>
    obtain ⟨ρ', q1, q2⟩ := deepB_sound ((h.drop b').tocell h1 (fun c s z cs t fr hc _ => by rw [hρ] at hc; cases hc)) hd
    exact ⟨ρ', q1, q2⟩
   | some x =>
    obtain ⟨c, s, z⟩ := x
    obtain ⟨o1, e1, e2⟩ := h.obj b _ c s z hg hρ
    cases o1 <;> try exact e2.elim
    rename_i cs t' fr
    obtain ⟨v', e3, hv⟩ := e2.2.2.2.1 j _ hj
    obtain ⟨ρ1, g1, g2, g3⟩ := frzS_sound h hv hf hob
    have hb := g2.le.1 b _ hρ
    obtain ⟨ρ', q1, q2⟩ := deepB_sound (g1.tocell h1 (fun c' s' z' cs' t'' fr' hc he => by
     have e := hb.symm.trans hc
     cases e
     rw [e1] at he
     cases he
     exact ⟨v', e3, g3⟩)) hd
    exact ⟨ρ', q1, g2.le.trans q2⟩
def deepA (args : List Value) : List (Nat × Nat) → Tr AObj → Option (Tr AObj)
 | [], hp => some hp
 | (i, j) :: l, hp => match args[i]? with
  | some (.agg c) => match c[j]? with
   | some (.slice (some ⟨b, _, none⟩) _ _) => match hp.get b with
    | some (.cells cs _) => match deepB b (List.range cs.length) hp with
     | some hp1 => deepA args l hp1
     | none => none
    | _ => none
   | some _ => deepA args l hp
   | none => none
  | _ => none
theorem deepA_sound {args : List Value} {W : Base} {nx : Nat} {w : World} : ∀ {l : List (Nat × Nat)} {hp hp' : Tr AObj} {ρ : Place}, Rel ρ W hp nx w → deepA args l hp = some hp' → ∃ ρ', Rel ρ' W hp' nx w ∧ ρ.le ρ'
 | [], hp, hp', ρ, h, hd => by simp only [deepA] at hd; cases hd; exact ⟨ρ, h, .refl ρ⟩
 | (i, j) :: l, hp, hp', ρ, h, hd => by
  simp only [deepA] at hd
  split at hd
  case h_2 => cases hd
  split at hd
  case h_3 => cases hd
  case h_2 => exact deepA_sound h hd
  split at hd
  case h_2 => cases hd
  split at hd
  case h_2 => cases hd
  rename_i hp1 hb
  obtain ⟨ρ1, g1, g2⟩ := deepB_sound h hb
  obtain ⟨ρ2, k1, k2⟩ := deepA_sound g1 hd
  exact ⟨ρ2, k1, g2.trans k2⟩
def all2 (p : Value → Value → Bool) : List Value → List Value → Bool
 | [], [] => true
 | x :: l, y :: m => p x y && all2 p l m
 | _, _ => false
theorem all2_get {p : Value → Value → Bool} : ∀ {l m : List Value}, all2 p l m = true → l.length = m.length ∧ ∀ (i : Nat) (x y : Value), l[i]? = some x → m[i]? = some y → p x y = true
 | [], [], _ => ⟨rfl, fun i x y h => by simp at h⟩
 | [], _ :: _, h => by simp [all2] at h
 | _ :: _, [], h => by simp [all2] at h
 | a :: l, b :: m, h => by
  simp only [all2, Bool.and_eq_true] at h
  obtain ⟨h1, h2⟩ := all2_get h.2
  refine ⟨by simp [h1], fun i x y hx hy => ?_⟩
  cases i with
  | zero => cases hx; cases hy; exact h.1
  | succ i => exact h2 i x y (by simpa using hx) (by simpa using hy)
def weq : Nat → Value → Value → Bool
 | 0, _, _ => false
 | k + 1, v, w => match v, w with
  | .slice none 0 _, .func (.via _ p n false) els c => p.isEmpty && c.isEmpty && n.beq 0 && els.isEmpty
  | .func (.via sz p n false) els c, .func (.via sz' p' n' false) els' c' => p.isEmpty && p'.isEmpty && c.isEmpty && c'.isEmpty && sz.beq sz' && n.beq n' && all2 (fun u u' => all2 (weq k) u.cells.toList u'.cells.toList) els.toList els'.toList
  | .agg a, .agg b => all2 (weq k) a.toList b.toList
  | v, w => veqFlat v w
theorem weq_sound : ∀ {k : Nat} {v w : Value}, weq k v w = true → ∀ (fr : Nat → Option Obj) (x : Value), VR0 fr v x → VR0 fr w x
 | 0, v, w, h => by simp [weq] at h
 | k + 1, v, w, h => by
  intro fr x hx
  unfold weq at h
  split at h
  ·rename_i sz p n els c
   simp only [Bool.and_eq_true, Array.isEmpty_iff] at h
   obtain ⟨⟨⟨rfl, rfl⟩, hn⟩, rfl⟩ := h
   obtain rfl := Nat.eq_of_beq_eq_true hn
   cases hx
   exact .treeNil _ _ _
  ·rename_i sz p n els c sz' p' n' els' c'
   simp only [Bool.and_eq_true, Array.isEmpty_iff] at h
   obtain ⟨⟨⟨⟨⟨⟨rfl, rfl⟩, rfl⟩, rfl⟩, hs⟩, hn⟩, ha⟩ := h
   obtain rfl := Nat.eq_of_beq_eq_true hs
   obtain rfl := Nat.eq_of_beq_eq_true hn
   obtain ⟨a1, a2⟩ := all2_get ha
   have hsz : els'.size = els.size := by simpa using a1.symm
   have get : ∀ (i : Nat) (u' : Value), els'[i]? = some u' → ∃ u, els[i]? = some u ∧ all2 (weq k) u.cells.toList u'.cells.toList = true := fun i u' hu => by
    have hi : i < els.size := by
     have := (Array.getElem?_eq_some_iff.1 hu).1
     omega
    exact ⟨els[i], by simp [hi], a2 i _ _ (by simp [hi]) (by simpa using hu)⟩
   cases hx with
   | tree hb h1 h2 h3 h4 h5 =>
    refine .tree hb (hsz.trans h1) h2 h3 (fun i u' hu => ?_) (fun i j u' v' x hu hv hx => ?_)
    ·obtain ⟨u, e, hc⟩ := get i u' hu
     have := (all2_get hc).1
     rw [← h4 i u e]
     simpa using this.symm
    ·obtain ⟨u, e, hc⟩ := get i u' hu
     obtain ⟨b1, b2⟩ := all2_get hc
     have hj : j < u.cells.size := by
      have := (Array.getElem?_eq_some_iff.1 hv).1
      simp only [Array.length_toList] at b1
      omega
     have hw := b2 j u.cells[j] v' (by simp [hj]) (by simpa using hv)
     exact weq_sound hw _ _ (h5 i j u u.cells[j] x e (by simp [hj]) hx)
   | treeNil =>
    obtain rfl : els' = #[] := Array.eq_empty_of_size_eq_zero hsz
    exact .treeNil _ _ _
  ·rename_i a b
   obtain ⟨a1, a2⟩ := all2_get h
   have hsz : a.size = b.size := by simpa using a1
   cases hx with
   | agg hs hc =>
    refine .agg (by rw [← hsz]; exact hs) fun i v v' hv hv' => ?_
    have hi : i < a.size := by
     have := (Array.getElem?_eq_some_iff.1 hv).1
     omega
    have hw := a2 i a[i] v (by simp [hi]) (by simpa using hv)
    exact weq_sound hw _ _ (hc i a[i] v' (by simp [hi]) hv')
  ·rw [← veqFlat_eq h]
   exact hx
structure FEntry where
 f : FuncId
 deep : List (Nat × Nat)
 fn : List Value → Option (List Value × Value)
def FEntryOk (P : Program) (e : FEntry) : Prop := ∀ us ps v, e.fn us = some (ps, v) → Pure P e.f ps fun u => u = v
def atF (ps : List Value) (v : Value) (us : List Value) : Option (List Value × Value) := bif all2 (weq 9) us ps then some (ps, v) else none
theorem atF_eq {ps qs us : List Value} {v u : Value} (h : atF ps v us = some (qs, u)) : qs = ps ∧ u = v := by
 unfold atF at h
 cases hc : all2 (weq 9) us ps with
 | false => rw [hc] at h; cases h
 | true => rw [hc] at h; cases h; exact ⟨rfl, rfl⟩
theorem atF_ok {P : Program} {f : FuncId} {deep : List (Nat × Nat)} {ps : List Value} {v : Value} (h : Pure P f ps fun u => u = v) : FEntryOk P ⟨f, deep, atF ps v⟩ := fun us qs u hu => by
 obtain ⟨rfl, rfl⟩ := atF_eq hu
 exact h
def fnOf (f : FuncId) : List FEntry → Option FEntry
 | [] => none
 | e :: l => bif e.f.beq f then some e else fnOf f l
theorem fnOf_mem {f : FuncId} {e : FEntry} : ∀ {l : List FEntry}, fnOf f l = some e → e ∈ l ∧ e.f = f
 | [], h => by simp [fnOf] at h
 | x :: l, h => by
  simp only [fnOf] at h
  cases hx : x.f.beq f with
  | true => rw [hx] at h; cases h; exact ⟨by simp, Nat.eq_of_beq_eq_true hx⟩
  | false => rw [hx, cond_false] at h; exact ⟨by simp [(fnOf_mem h).1], (fnOf_mem h).2⟩
def orcF (P : Program) (tab : List FEntry) (next : ACall) : ACall := fun f args hp nx =>
 match fnOf f tab with
 | some e => match P.funcs[f]? with
  | some fn => match deepA args e.deep hp with
   | some hp0 => match frzTs P 0 fn.params.toList args hp0 with
    | some (us, _, _) => match e.fn us with
      | some (ps, v) => bif okTs P 0 fn.params.toList args hp0 && ps.all nl && all2 (weq 9) us ps && closed v then some (v, hp, nx) else none
      | none => none
    | none => none
   | none => none
  | none => none
 | none => next f args hp nx
theorem orcF_ok {P : Program} {tab : List FEntry} {next : ACall} (ht : ∀ e ∈ tab, FEntryOk P e) (hnx : ∀ W, CallOk P W next) (W : Base) : CallOk P W (orcF P tab next) := by
 intro f args hp nx v hp' nx' h ρ w args' hrel hargs
 unfold orcF at h
 split at h
 case h_2 => exact hnx W f args hp nx v hp' nx' h ρ w args' hrel hargs
 rename_i e he
 obtain ⟨h1, rfl⟩ := fnOf_mem he
 split at h
 case h_2 => cases h
 split at h
 case h_2 => cases h
 rename_i hp0 hd
 obtain ⟨ρ0, r1, r2⟩ := deepA_sound hrel hd
 split at h
 case h_2 => cases h
 rename_i us hp1 ob hf
 split at h
 case h_2 => cases h
 rename_i ps u hu
 cases hc : okTs P 0 _ args hp0 && ps.all nl && all2 (weq 9) us ps && closed u with
 | false => rw [hc] at h; cases h
 | true =>
  rw [hc, cond_true] at h
  simp only [Bool.and_eq_true] at hc
  obtain ⟨⟨⟨c1, c2⟩, c3⟩, hcl⟩ := hc
  cases h
  obtain ⟨ρ1, g1, g2, g3, g4⟩ := frzTs_sound r1 (hargs.mono r2) hf (frzTs_ok hf c1)
  obtain ⟨d1, d2⟩ := all2_get c3
  have hargs1 : VRL ρ1 ps args' := .of (by rw [← d1]; exact g3) fun i v v' a b => by
   have hi : i < us.length := by
    rw [d1]
    exact (List.getElem?_eq_some_iff.1 a).1
   exact VR0.lift (weq_sound (d2 i us[i] v (List.getElem?_eq_getElem hi) a) _ _ (g4 i us[i] v' (List.getElem?_eq_getElem hi) b))
  refine ((ht e h1 us ps _ hu).call c2 g1 hargs1).mono ?_
  rintro e' w' ⟨v, v', ρ2, rfl, rfl, q1, q2, q3, q4, q5⟩
  have e : v' = v := closed_eq hcl q1
  exact ⟨v, ρ, by rw [e], closed_refl hcl, hrel.later q5, .refl _ _ _⟩
def yieldsO (P : Program) (orc : ACall) (k f : Nat) : Bool :=
 match acallO P orc k f [] .e 0 with
 | some (.bool b, _) => b
 | _ => false
theorem pure_yieldsO {P : Program} (hm : P.follows .mixedOrders = true) {orc : ACall} (ho : ∀ W, CallOk P W orc) {k f : Nat} (h : yieldsO P orc k f = true) : EntOk P ⟨f, fun args Post => args = [] ∧ Post (.bool true)⟩ := by
 rintro args Post ⟨rfl, hP⟩
 unfold yieldsO at h
 split at h
 case h_2 => cases h
 rename_i b st hc
 subst h
 intro W ρ w args' hrel hargs
 refine ((acode_sound hm ho k).2.2 W f [] .e 0 (.bool true) st.1 st.2 hc ρ w args' hrel hargs).mono ?_
 rintro e w' ⟨v', ρ', rfl, h1, h2, h3⟩
 exact ⟨.bool true, st.1, st.2, v', ρ', hP, rfl, nl1_sound (by rfl) h1, h2, ⟨fun b x hb => by omega, h3.le.2⟩⟩
end Go.Proofs.YtojlhapbngcjkaaGreatDoor
