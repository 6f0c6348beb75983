/-
  Put together out of several texts, each in its own namespace's block. Conditions: as each theorem states them.
-/
import Derived.Handy
import Derived.Below
import Derived.Orders
noncomputable section
namespace Go.Proofs.YtojlhapbngcjkaaGreatDoor
open Go
inductive Tr (α : Type) where
 | e
 | n (v : Option α) (l r : Tr α)
namespace Tr
variable {α : Type}
def get (t : Tr α) : Nat → Option α :=
 Tr.rec (motive := fun _ => Nat → Option α) (fun _ => none)
  (fun v _ _ gl gr k => Bool.rec (motive := fun _ => Option α) (Bool.rec (motive := fun _ => Option α) (gr (Nat.pred (Nat.div k 2))) (gl (Nat.div k 2)) (Nat.beq (Nat.mod k 2) 1)) v (Nat.beq k 0)) t
theorem get_e (k : Nat) : (Tr.e : Tr α).get k = none := rfl
theorem get_n (v : Option α) (l r : Tr α) (k : Nat) : (Tr.n v l r).get k = bif k.beq 0 then v else bif (k % 2).beq 1 then l.get (k / 2) else r.get (k / 2 - 1) := by
 show Bool.rec (motive := fun _ => Option α) (Bool.rec (motive := fun _ => Option α) (r.get (Nat.pred (Nat.div k 2))) (l.get (Nat.div k 2)) (Nat.beq (Nat.mod k 2) 1)) v (Nat.beq k 0) = _
 show _ = bif Nat.beq k 0 then v else bif Nat.beq (Nat.mod k 2) 1 then l.get (Nat.div k 2) else r.get (Nat.pred (Nat.div k 2))
 cases Nat.beq k 0 <;> cases Nat.beq (Nat.mod k 2) 1 <;> rfl
def top : Tr α → Option α
 | .e => none
 | .n v _ _ => v
def left : Tr α → Tr α
 | .e => .e
 | .n _ l _ => l
def right : Tr α → Tr α
 | .e => .e
 | .n _ _ r => r
theorem get_parts (t : Tr α) (k : Nat) : t.get k = bif k.beq 0 then t.top else bif (k % 2).beq 1 then t.left.get (k / 2) else t.right.get (k / 2 - 1) := by
 cases t with
 | e => simp only [get_e, top, left, right]; cases k.beq 0 <;> cases (k % 2).beq 1 <;> rfl
 | n v l r => exact get_n v l r k
def putF (o : Option α) (fuel : Nat) : Tr α → Nat → Tr α :=
 Nat.rec (motive := fun _ => Tr α → Nat → Tr α) (fun t _ => t)
  (fun _ ih t k => Bool.rec (motive := fun _ => Tr α) (Bool.rec (motive := fun _ => Tr α) (Tr.rec (motive := fun _ => Tr α) (Tr.n none Tr.e (ih Tr.e (Nat.pred (Nat.div k 2)))) (fun v l r _ _ => Tr.n v l (ih r (Nat.pred (Nat.div k 2)))) t)
   (Tr.rec (motive := fun _ => Tr α) (Tr.n none (ih Tr.e (Nat.div k 2)) Tr.e) (fun v l r _ _ => Tr.n v (ih l (Nat.div k 2)) r) t) (Nat.beq (Nat.mod k 2) 1))
   (Tr.rec (motive := fun _ => Tr α) (Tr.n o Tr.e Tr.e) (fun _ l r _ _ => Tr.n o l r) t) (Nat.beq k 0)) fuel
theorem putF_succ (o : Option α) (fuel : Nat) (t : Tr α) (k : Nat) : putF o (fuel + 1) t k =
  bif k.beq 0 then .n o t.left t.right else bif (k % 2).beq 1 then .n t.top (putF o fuel t.left (k / 2)) t.right else .n t.top t.left (putF o fuel t.right (k / 2 - 1)) := by
 show _ = bif Nat.beq k 0 then Tr.n o t.left t.right else bif Nat.beq (Nat.mod k 2) 1 then Tr.n t.top (putF o fuel t.left (Nat.div k 2)) t.right else Tr.n t.top t.left (putF o fuel t.right (Nat.pred (Nat.div k 2)))
 unfold putF
 dsimp only
 cases t <;> cases Nat.beq k 0 <;> cases Nat.beq (Nat.mod k 2) 1 <;> rfl
def put (t : Tr α) (k : Nat) (o : Option α) : Tr α := putF o (k + 1) t k
theorem get_putF (o : Option α) : ∀ (fuel : Nat) (t : Tr α) (k j : Nat), k < fuel → (putF o fuel t k).get j = if j = k then o else t.get j := by
 intro fuel
 induction fuel with
 | zero => intro t k j h; omega
 | succ fuel ih =>
  intro t k j h
  rw [putF_succ, get_parts t j]
  by_cases hk : k = 0
  ·subst hk
   simp only [Nat.beq, cond_true]
   rw [get_n]
   by_cases hj : j = 0
   ·subst hj; rfl
   ·have : j.beq 0 = false := by cases j <;> first | rfl | omega
    simp [this, hj]
  ·have hkb : k.beq 0 = false := by cases k <;> first | rfl | omega
   rw [hkb, cond_false]
   by_cases ho : k % 2 = 1
   ·rw [ho]
    simp only [Nat.beq, cond_true]
    rw [get_n]
    by_cases hj : j = 0
    ·subst hj; simp [Nat.beq, top, Ne.symm hk]
    ·have hjb : j.beq 0 = false := by cases j <;> first | rfl | omega
     rw [hjb]
     simp only [cond_false]
     by_cases hjo : j % 2 = 1
     ·rw [hjo]
      simp only [Nat.beq, cond_true, left]
      rw [ih _ _ _ (by omega)]
      by_cases hjk : j = k
      ·subst hjk; simp
      ·rw [if_neg (by omega), if_neg hjk]
     ·have : (j % 2).beq 1 = false := by (have : j % 2 = 0 := by omega); rw [this]; rfl
      rw [this]
      simp only [cond_false, right]
      rw [if_neg (by omega)]
   ·have hko : (k % 2).beq 1 = false := by (have : k % 2 = 0 := by omega); rw [this]; rfl
    rw [hko, cond_false, get_n]
    by_cases hj : j = 0
    ·subst hj; simp [Nat.beq, top, Ne.symm hk]
    ·have hjb : j.beq 0 = false := by cases j <;> first | rfl | omega
     rw [hjb]
     simp only [cond_false]
     by_cases hjo : j % 2 = 1
     ·rw [hjo]
      simp only [Nat.beq, cond_true, left]
      rw [if_neg (by omega)]
     ·have : (j % 2).beq 1 = false := by (have : j % 2 = 0 := by omega); rw [this]; rfl
      rw [this]
      simp only [cond_false, right]
      rw [ih _ _ _ (by omega)]
      by_cases hjk : j = k
      ·subst hjk; simp
      ·rw [if_neg (by omega), if_neg hjk]
theorem get_put (t : Tr α) (k : Nat) (o : Option α) (j : Nat) : (t.put k o).get j = if j = k then o else t.get j := get_putF o _ t k j (by omega)
end Tr

inductive AObj where
 | cells (c : List Value) (w : Bool)
 | iter (s : ByteArray) (pos : Nat)
 | map (es : List (Value × Value × Nat)) (clock : Nat)
 | miter (m : Option Nat) (since last : Nat) (seen : List Nat)
def glob : Nat → Option (Array Value) := fun g => bif g.beq 2 then some #[.int .i64 20, .int .i64 300] else bif g.beq 1 then some #[.int .i64 1, .int .i64 2] else bif g.beq 5 then some #[.int .u8 128, .int .u8 191, .int .u8 160, .int .u8 191, .int .u8 128, .int .u8 159, .int .u8 144, .int .u8 191, .int .u8 128, .int .u8 143, .int .u8 0, .int .u8 0, .int .u8 0, .int .u8 0, .int .u8 0, .int .u8 0, .int .u8 0, .int .u8 0, .int .u8 0, .int .u8 0, .int .u8 0, .int .u8 0, .int .u8 0, .int .u8 0, .int .u8 0, .int .u8 0, .int .u8 0, .int .u8 0, .int .u8 0, .int .u8 0, .int .u8 0, .int .u8 0] else bif g.beq 0 then some #[.int .u32 0, .int .u32 274646895, .int .u32 549293790, .int .u32 820201905, .int .u32 1098587580, .int .u32 1361435347, .int .u32 1640403810, .int .u32 1905808397, .int .u32 2197175160, .int .u32 2460548119, .int .u32 2722870694, .int .u32 2987750089, .int .u32 3280807620, .int .u32 3553878443, .int .u32 3811616794, .int .u32 4084100981] else bif g.beq 6 then some #[.int .u64 1, .int .u64 10, .int .u64 100, .int .u64 1000, .int .u64 10000, .int .u64 100000, .int .u64 1000000, .int .u64 10000000, .int .u64 100000000, .int .u64 1000000000, .int .u64 10000000000, .int .u64 100000000000, .int .u64 1000000000000, .int .u64 10000000000000, .int .u64 100000000000000, .int .u64 1000000000000000, .int .u64 10000000000000000, .int .u64 100000000000000000, .int .u64 1000000000000000000, .int .u64 10000000000000000000] else bif g.beq 8 then some #[.int .u8 0, .int .u8 1, .int .u8 56, .int .u8 2, .int .u8 57, .int .u8 49, .int .u8 28, .int .u8 3, .int .u8 61, .int .u8 58, .int .u8 42, .int .u8 50, .int .u8 38, .int .u8 29, .int .u8 17, .int .u8 4, .int .u8 62, .int .u8 47, .int .u8 59, .int .u8 36, .int .u8 45, .int .u8 43, .int .u8 51, .int .u8 22, .int .u8 53, .int .u8 39, .int .u8 33, .int .u8 30, .int .u8 24, .int .u8 18, .int .u8 12, .int .u8 5, .int .u8 63, .int .u8 55, .int .u8 48, .int .u8 27, .int .u8 60, .int .u8 41, .int .u8 37, .int .u8 16, .int .u8 46, .int .u8 35, .int .u8 44, .int .u8 21, .int .u8 52, .int .u8 32, .int .u8 23, .int .u8 11, .int .u8 54, .int .u8 26, .int .u8 40, .int .u8 15, .int .u8 34, .int .u8 20, .int .u8 31, .int .u8 10, .int .u8 25, .int .u8 14, .int .u8 19, .int .u8 9, .int .u8 13, .int .u8 8, .int .u8 7, .int .u8 6] else bif g.beq 7 then some #[.int .u8 0, .int .u8 1, .int .u8 28, .int .u8 2, .int .u8 29, .int .u8 14, .int .u8 24, .int .u8 3, .int .u8 30, .int .u8 22, .int .u8 20, .int .u8 15, .int .u8 25, .int .u8 17, .int .u8 4, .int .u8 8, .int .u8 31, .int .u8 27, .int .u8 13, .int .u8 23, .int .u8 21, .int .u8 19, .int .u8 16, .int .u8 7, .int .u8 26, .int .u8 12, .int .u8 18, .int .u8 6, .int .u8 11, .int .u8 5, .int .u8 10, .int .u8 9] else none
structure Place where
 pl : Nat → Option (Nat × Nat × Nat)
 fr : Nat → Option Obj
 gl : ∀ g cs, glob g = some cs → ∃ t fz, fr g = some (.cells cs t fz)
def Place.any : Place := ⟨fun _ => none, fun g => match glob g with | some cs => some (.cells cs 0 (0, 0)) | none => none, fun g cs h => ⟨0, (0, 0), by rw [h]⟩⟩
instance : CoeFun Place (fun _ => Nat → Option (Nat × Nat × Nat)) := ⟨Place.pl⟩
abbrev tree (sz n : Nat) (els : Array Value) : Value := .func (.via sz #[] n false) els #[]
abbrev treeAt (els : Array Value) (i off : Nat) : Value := .func (.via i #[] off true) els #[]
inductive VR0 (fr : Nat → Option Obj) : Value → Value → Prop where
 | bool (b : Bool) : VR0 fr (.bool b) (.bool b)
 | int (k : IntKind) (n : Int) : VR0 fr (.int k n) (.int k n)
 | float (k : FloatKind) (n : Nat) : VR0 fr (.float k n) (.float k n)
 | complex (k : FloatKind) (n m : Nat) : VR0 fr (.complex k n m) (.complex k n m)
 | string (s : ByteArray) : VR0 fr (.string s) (.string s)
 | nilPtr : VR0 fr (.pointer none) (.pointer none)
 | nilSlice (n c : Nat) : VR0 fr (.slice none n c) (.slice none n c)
 | nilMap : VR0 fr (.map none) (.map none)
 | nilChan : VR0 fr (.chan none) (.chan none)
 | func (k : Nat) {f f' c c' : Array Value} : f.size = f'.size → (∀ (i : Nat) (v v' : Value), f[i]? = some v → f'[i]? = some v' → VR0 fr v v') →
   c.size = c'.size → (∀ (i : Nat) (v v' : Value), c[i]? = some v → c'[i]? = some v' → VR0 fr v v') → VR0 fr (.func (.func k) f c) (.func (.func k) f' c')
 | tree {sz n cap c o : Nat} {els cs : Array Value} {t : TypeId} {fz : Nat × Nat} : fr c = some (.cells cs t fz) → els.size = n → n ≤ cap → o + n * sz ≤ cs.size →
   (∀ (i : Nat) (u : Value), els[i]? = some u → u.cells.size = sz) →
   (∀ (i j : Nat) (u v v' : Value), els[i]? = some u → u.cells[j]? = some v → cs[o + i * sz + j]? = some v' → VR0 fr v v') → VR0 fr (tree sz n els) (.slice (some ⟨c, o, none⟩) n cap)
 | treeNil (sz : Nat) (a : Option Addr) (cap : Nat) : VR0 fr (tree sz 0 #[]) (.slice a 0 cap)
 | treeAt {i off c o : Nat} {els cs : Array Value} {t : TypeId} {fz : Nat × Nat} {u : Value} : fr c = some (.cells cs t fz) → els[i]? = some u → o + u.cells.size ≤ cs.size →
   (∀ (j : Nat) (v v' : Value), u.cells[j]? = some v → cs[o + j]? = some v' → VR0 fr v v') → VR0 fr (treeAt els i off) (.pointer (some ⟨c, o + off, none⟩))
 | nilFunc : VR0 fr .nilFunc .nilFunc
 | iface (t : TypeId) {v v' : Value} : VR0 fr v v' → VR0 fr (.iface t v) (.iface t v')
 | nilIface : VR0 fr .nilIface .nilIface
 | agg {c c' : Array Value} : c.size = c'.size → (∀ (i : Nat) (v v' : Value), c[i]? = some v → c'[i]? = some v' → VR0 fr v v') → VR0 fr (.agg c) (.agg c')
 | tuple {c c' : Array Value} : c.size = c'.size → (∀ (i : Nat) (v v' : Value), c[i]? = some v → c'[i]? = some v' → VR0 fr v v') → VR0 fr (.tuple c) (.tuple c')
theorem VR0.mono {fr fr' : Nat → Option Obj} (h : ∀ c x, fr c = some x → fr' c = some x) {v v' : Value} (hv : VR0 fr v v') : VR0 fr' v v' := by
 induction hv with
 | bool b => exact .bool b
 | int k n => exact .int k n
 | float k n => exact .float k n
 | complex k n m => exact .complex k n m
 | string s => exact .string s
 | nilPtr => exact .nilPtr
 | nilSlice n c => exact .nilSlice n c
 | nilMap => exact .nilMap
 | nilChan => exact .nilChan
 | func k h1 _ h3 _ i1 i2 => exact .func k h1 i1 h3 i2
 | tree hb h1 h2 h3 h4 _ ih => exact .tree (h _ _ hb) h1 h2 h3 h4 ih
 | treeNil sz a cap => exact .treeNil sz a cap
 | treeAt hb h1 h2 _ ih => exact .treeAt (h _ _ hb) h1 h2 ih
 | nilFunc => exact .nilFunc
 | iface t _ ih => exact .iface t ih
 | nilIface => exact .nilIface
 | agg h1 _ ih => exact .agg h1 ih
 | tuple h1 _ ih => exact .tuple h1 ih
inductive VR (ρ : Place) : Value → Value → Prop where
 | bool (b : Bool) : VR ρ (.bool b) (.bool b)
 | int (k : IntKind) (n : Int) : VR ρ (.int k n) (.int k n)
 | float (k : FloatKind) (n : Nat) : VR ρ (.float k n) (.float k n)
 | complex (k : FloatKind) (n m : Nat) : VR ρ (.complex k n m) (.complex k n m)
 | string (s : ByteArray) : VR ρ (.string s) (.string s)
 | nilPtr : VR ρ (.pointer none) (.pointer none)
 | ptr {b o c s z : Nat} : ρ b = some (c, s, z) → VR ρ (.pointer (some ⟨b, o, none⟩)) (.pointer (some ⟨c, s + o, none⟩))
 | nilSlice (n c : Nat) : VR ρ (.slice none n c) (.slice none n c)
 | slice {b o n sz c s z cap : Nat} : ρ b = some (c, s, z) → n ≤ cap → s + o + cap * sz ≤ z → VR ρ (.slice (some ⟨b, o, none⟩) n sz) (.slice (some ⟨c, s + o, none⟩) n cap)
 | emptySlice {b o : Nat} {y : Nat × Nat × Nat} (a' : Addr) {sz : Nat} : ρ b = some y → VR ρ (.slice (some ⟨b, o, none⟩) 0 sz) (.slice (some a') 0 0)
 | nilMap : VR ρ (.map none) (.map none)
 | map {b c s z : Nat} : ρ b = some (c, s, z) → VR ρ (.map (some b)) (.map (some c))
 | nilChan : VR ρ (.chan none) (.chan none)
 | func (k : Nat) {f f' c c' : Array Value} : f.size = f'.size → (∀ (i : Nat) (v v' : Value), f[i]? = some v → f'[i]? = some v' → VR ρ v v') →
   c.size = c'.size → (∀ (i : Nat) (v v' : Value), c[i]? = some v → c'[i]? = some v' → VR ρ v v') → VR ρ (.func (.func k) f c) (.func (.func k) f' c')
 | meth (name : String) {v v' : Value} : VR ρ v v' → VR ρ (.func (.method name) #[v] #[]) (.func (.method name) #[v'] #[])
 | tree {sz n cap c o : Nat} {els cs : Array Value} {t : TypeId} {fz : Nat × Nat} : ρ.fr c = some (.cells cs t fz) → els.size = n → n ≤ cap → o + n * sz ≤ cs.size →
   (∀ (i : Nat) (u : Value), els[i]? = some u → u.cells.size = sz) →
   (∀ (i j : Nat) (u v v' : Value), els[i]? = some u → u.cells[j]? = some v → cs[o + i * sz + j]? = some v' → VR0 ρ.fr v v') → VR ρ (tree sz n els) (.slice (some ⟨c, o, none⟩) n cap)
 | treeNil (sz : Nat) (a : Option Addr) (cap : Nat) : VR ρ (tree sz 0 #[]) (.slice a 0 cap)
 | treeAt {i off c o : Nat} {els cs : Array Value} {t : TypeId} {fz : Nat × Nat} {u : Value} : ρ.fr c = some (.cells cs t fz) → els[i]? = some u → o + u.cells.size ≤ cs.size →
   (∀ (j : Nat) (v v' : Value), u.cells[j]? = some v → cs[o + j]? = some v' → VR0 ρ.fr v v') → VR ρ (treeAt els i off) (.pointer (some ⟨c, o + off, none⟩))
 | nilFunc : VR ρ .nilFunc .nilFunc
 | iface (t : TypeId) {v v' : Value} : VR ρ v v' → VR ρ (.iface t v) (.iface t v')
 | nilIface : VR ρ .nilIface .nilIface
 | agg {c c' : Array Value} : c.size = c'.size → (∀ (i : Nat) (v v' : Value), c[i]? = some v → c'[i]? = some v' → VR ρ v v') → VR ρ (.agg c) (.agg c')
 | tuple {c c' : Array Value} : c.size = c'.size → (∀ (i : Nat) (v v' : Value), c[i]? = some v → c'[i]? = some v' → VR ρ v v') → VR ρ (.tuple c) (.tuple c')
def VRA (ρ : Place) (c c' : Array Value) : Prop := c.size = c'.size ∧ ∀ (i : Nat) (v v' : Value), c[i]? = some v → c'[i]? = some v' → VR ρ v v'
def Place.le (ρ ρ' : Place) : Prop := (∀ b x, ρ b = some x → ρ' b = some x) ∧ ∀ c x, ρ.fr c = some x → ρ'.fr c = some x
theorem Place.le.refl (ρ : Place) : ρ.le ρ := ⟨fun _ _ h => h, fun _ _ h => h⟩
theorem Place.le.trans {a b c : Place} (h : a.le b) (k : b.le c) : a.le c := ⟨fun x y hx => k.1 x y (h.1 x y hx), fun x y hx => k.2 x y (h.2 x y hx)⟩
theorem VR.mono {ρ ρ' : Place} (h : ρ.le ρ') {v v' : Value} (hv : VR ρ v v') : VR ρ' v v' := by
 induction hv with
 | bool b => exact .bool b
 | int k n => exact .int k n
 | float k n => exact .float k n
 | complex k n m => exact .complex k n m
 | string s => exact .string s
 | nilPtr => exact .nilPtr
 | ptr hb => exact .ptr (h.1 _ _ hb)
 | nilSlice n c => exact .nilSlice n c
 | slice hb h1 h2 => exact .slice (h.1 _ _ hb) h1 h2
 | emptySlice a' hb => exact .emptySlice a' (h.1 _ _ hb)
 | nilMap => exact .nilMap
 | map hb => exact .map (h.1 _ _ hb)
 | nilChan => exact .nilChan
 | func k h1 _ h3 _ i1 i2 => exact .func k h1 i1 h3 i2
 | meth name _ ih => exact .meth name ih
 | tree hb h1 h2 h3 h4 h5 => exact .tree (h.2 _ _ hb) h1 h2 h3 h4 fun i j u v v' a b c => (h5 i j u v v' a b c).mono h.2
 | treeNil sz a cap => exact .treeNil sz a cap
 | treeAt hb h1 h2 h3 => exact .treeAt (h.2 _ _ hb) h1 h2 fun j v v' a b => (h3 j v v' a b).mono h.2
 | nilFunc => exact .nilFunc
 | iface t _ ih => exact .iface t ih
 | nilIface => exact .nilIface
 | agg h1 _ ih => exact .agg h1 ih
 | tuple h1 _ ih => exact .tuple h1 ih
theorem VR0.lift {ρ : Place} {v v' : Value} (hv : VR0 ρ.fr v v') : VR ρ v v' := by
 induction hv with
 | bool b => exact .bool b
 | int k n => exact .int k n
 | float k n => exact .float k n
 | complex k n m => exact .complex k n m
 | string s => exact .string s
 | nilPtr => exact .nilPtr
 | nilSlice n c => exact .nilSlice n c
 | nilMap => exact .nilMap
 | nilChan => exact .nilChan
 | func k h1 _ h3 _ i1 i2 => exact .func k h1 i1 h3 i2
 | tree hb h1 h2 h3 h4 h5 => exact .tree hb h1 h2 h3 h4 h5
 | treeNil sz a cap => exact .treeNil sz a cap
 | treeAt hb h1 h2 h3 => exact .treeAt hb h1 h2 h3
 | nilFunc => exact .nilFunc
 | iface t _ ih => exact .iface t ih
 | nilIface => exact .nilIface
 | agg h1 _ ih => exact .agg h1 ih
 | tuple h1 _ ih => exact .tuple h1 ih
theorem VRA.mono {ρ ρ' : Place} (h : ρ.le ρ') {c c' : Array Value} (hv : VRA ρ c c') : VRA ρ' c c' := ⟨hv.1, fun i v v' a b => (hv.2 i v v' a b).mono h⟩
theorem VRA.get {ρ : Place} {c c' : Array Value} (h : VRA ρ c c') {i : Nat} {v : Value} (hv : c[i]? = some v) : ∃ v', c'[i]? = some v' ∧ VR ρ v v' := by
 have hi : i < c.size := by
  rcases Nat.lt_or_ge i c.size with h' | h'
  ·exact h'
  ·simp [Array.getElem?_eq_none h'] at hv
 have hi' : i < c'.size := h.1 ▸ hi
 exact ⟨c'[i], by simp, h.2 i v _ hv (by simp)⟩
def flat : Value → Bool
 | .bool _ | .int _ _ | .float _ _ | .complex _ _ _ | .string _ | .pointer none | .slice none _ _ | .map none | .chan none | .nilFunc | .nilIface => true
 | .func (.func _) f c => f.isEmpty && c.isEmpty
 | _ => false
def flats (c : Array Value) : Bool := c.all flat
def closed1 : Value → Bool
 | .agg c => flats c
 | v => flat v
def closed : Value → Bool
 | .tuple c => c.all closed1
 | .iface _ v => closed1 v
 | v => closed1 v
theorem flat_refl {ρ : Place} {v : Value} (h : flat v = true) : VR ρ v v := by
 cases v with
 | bool b => exact .bool b
 | int k n => exact .int k n
 | float k n => exact .float k n
 | complex k n m => exact .complex k n m
 | string s => exact .string s
 | pointer a => cases a with
  | none => exact .nilPtr
  | some a => cases h
 | slice a n c => cases a with
  | none => exact .nilSlice n c
  | some a => cases h
 | map r => cases r with
  | none => exact .nilMap
  | some r => cases h
 | chan r => cases r with
  | none => exact .nilChan
  | some r => cases h
 | func fn f c =>
  cases fn <;> try (cases h)
  simp [flat] at h
  obtain ⟨rfl, rfl⟩ := h
  exact .func _ rfl (by simp) rfl (by simp)
 | nilFunc => exact .nilFunc
 | nilIface => exact .nilIface
 | iface t v => cases h
 | agg c => cases h
 | tuple c => cases h
theorem flat_refl0 {fr : Nat → Option Obj} {v : Value} (h : flat v = true) : VR0 fr v v := by
 cases v with
 | bool b => exact .bool b
 | int k n => exact .int k n
 | float k n => exact .float k n
 | complex k n m => exact .complex k n m
 | string s => exact .string s
 | pointer a => cases a with
  | none => exact .nilPtr
  | some a => cases h
 | slice a n c => cases a with
  | none => exact .nilSlice n c
  | some a => cases h
 | map r => cases r with
  | none => exact .nilMap
  | some r => cases h
 | chan r => cases r with
  | none => exact .nilChan
  | some r => cases h
 | func fn f c =>
  cases fn <;> try (cases h)
  simp [flat] at h
  obtain ⟨rfl, rfl⟩ := h
  exact .func _ rfl (by simp) rfl (by simp)
 | nilFunc => exact .nilFunc
 | nilIface => exact .nilIface
 | iface t v => cases h
 | agg c => cases h
 | tuple c => cases h
theorem flat_eq {ρ : Place} {v v' : Value} (h : flat v = true) (hv : VR ρ v v') : v' = v := by
 cases hv <;> first | rfl | cases h | skip
 case func h1 _ h3 _ =>
  simp [flat] at h
  obtain ⟨rfl, rfl⟩ := h
  simp at h1 h3
  have h1' := Array.eq_empty_of_size_eq_zero h1.symm
  have h3' := Array.eq_empty_of_size_eq_zero h3.symm
  subst h1' h3'
  rfl
theorem all_get {p : Value → Bool} {c : Array Value} (h : c.all p = true) {i : Nat} {v : Value} (hv : c[i]? = some v) : p v = true := by
 have := Array.mem_of_getElem? hv
 exact (Array.all_eq_true_iff_forall_mem.1 h) v this
theorem arr_refl {ρ : Place} {p : Value → Bool} (hp : ∀ v, p v = true → VR ρ v v) {c : Array Value} (h : c.all p = true) :
  ∀ (i : Nat) (v v' : Value), c[i]? = some v → c[i]? = some v' → VR ρ v v' := fun i v v' a b => by
 rw [a] at b; cases b; exact hp v (all_get h a)
theorem arr_eq {ρ : Place} {p : Value → Bool} (hp : ∀ v v', p v = true → VR ρ v v' → v' = v) {c c' : Array Value} (h : c.all p = true) (hs : c.size = c'.size)
  (hv : ∀ (i : Nat) (v v' : Value), c[i]? = some v → c'[i]? = some v' → VR ρ v v') : c' = c := by
 apply Array.ext hs.symm
 intro i h1 h2
 exact hp _ _ (all_get h (i := i) (by simp)) (hv i _ _ (by simp) (by simp))
theorem closed1_refl {ρ : Place} {v : Value} (h : closed1 v = true) : VR ρ v v := by
 cases v <;> first | exact flat_refl h | skip
 case agg c => exact .agg rfl (arr_refl (fun _ => flat_refl) h)
theorem closed1_eq {ρ : Place} {v v' : Value} (h : closed1 v = true) (hv : VR ρ v v') : v' = v := by
 cases v <;> first | exact flat_eq h hv | skip
 case agg c => cases hv with | agg hs hc => rw [arr_eq (fun _ _ => flat_eq) h hs hc]
theorem closed_refl {ρ : Place} {v : Value} (h : closed v = true) : VR ρ v v := by
 cases v <;> first | exact closed1_refl h | skip
 case iface t v => exact .iface t (closed1_refl h)
 case tuple c => exact .tuple rfl (arr_refl (fun _ => closed1_refl) h)
theorem closed_eq {ρ : Place} {v v' : Value} (h : closed v = true) (hv : VR ρ v v') : v' = v := by
 cases v <;> first | exact closed1_eq h hv | skip
 case iface t v => cases hv with | iface _ hv => rw [closed1_eq h hv]
 case tuple c => cases hv with | tuple hs hc => rw [arr_eq (fun _ _ => closed1_eq) h hs hc]
def pureRun (P : Program) {α : Type} (s : Sem α) : Option α :=
 Sem.rec (motive := fun _ => Option α) (fun a => some a) (fun _ _ _ _ => none) (fun _ _ _ _ _ => none) (fun _ _ _ => none) (fun _ _ _ => none) (fun _ _ _ _ => none)
  (fun _ _ _ => none) (fun _ _ _ => none) (fun _ _ _ _ => none) (fun _ _ _ => none) (fun _ _ _ => none) (fun _ ih => ih P) (fun _ _ ih => ih) (fun _ => none) s
theorem pureRun_run {P : Program} {α : Type} {s : Sem α} {v : α} (h : pureRun P s = some v) (w : World) : s.run P w = .ok v w := by
 induction s with
 | pure a => have h' : some a = some v := h; cases h'; rfl
 | program k ih => exact ih P h
 | mark m k ih => exact ih h
 | _ => exact nomatch (show (none : Option α) = some v from h)
end Go.Proofs.YtojlhapbngcjkaaGreatDoor

noncomputable section
namespace Go.Proofs.YtojlhapbngcjkaaGreatDoor
open Go
def aev (tm : Tr Value) (x : Operand) : Option Value :=
 Operand.rec (motive := fun _ => Tr Value → Option Value) (fun t tm => tm.get t) (fun v _ => Bool.rec (motive := fun _ => Option Value) none (some v) (closed v)) (fun g _ => match glob g with | some cs => bif flats cs then some (treeAt #[.agg cs] 0 0) else none | none => none) (fun f _ => some (.func (.func f) #[] #[])) x tm
theorem aev_const (tm : Tr Value) (v : Value) : aev tm (.const v) = bif closed v then some v else none := by
 show Bool.rec (motive := fun _ => Option Value) none (some v) (closed v) = _
 cases closed v <;> rfl
theorem glob_ev {ρ : Place} {tm : Tr Value} {g : Nat} {v : Value} (hv : aev tm (.global g) = some v) (a : Act) : VR ρ v (a.eval (.global g)) := by
 have hv' : (match glob g with | some cs => bif flats cs then some (treeAt #[.agg cs] 0 0) else none | none => none) = some v := hv
 split at hv'
 case h_2 => cases hv'
 rename_i cs hg
 cases hf : flats cs with
 | false => rw [hf] at hv'; cases hv'
 | true =>
  rw [hf] at hv'
  cases hv'
  obtain ⟨t, fz, hc⟩ := ρ.gl g cs hg
  exact VR.treeAt (c := g) (o := 0) (off := 0) (u := .agg cs) hc rfl (by simp [Value.cells]) fun j v v' h1 h2 => by
   have h1' : cs[j]? = some v := h1
   rw [Nat.zero_add, h1'] at h2
   cases h2
   exact flat_refl0 (all_get hf h1')
structure FRel (D : List Deferred) (ρ : Place) (tm : Tr Value) (n : Nat) (a : Act) : Prop where
 size : a.tmps.size = n
 defers : a.defers = D
 slot : ∀ t v, tm.get t = some v → t < n ∧ VR ρ v (a.tmps.getD t undef)
theorem FRel.mono {D : List Deferred} {ρ ρ' : Place} {tm : Tr Value} {n : Nat} {a : Act} (h : FRel D ρ tm n a) (hl : ρ.le ρ') : FRel D ρ' tm n a :=
 ⟨h.size, h.defers, fun t v hv => ⟨(h.slot t v hv).1, (h.slot t v hv).2.mono hl⟩⟩
theorem FRel.eval {D : List Deferred} {ρ : Place} {tm : Tr Value} {n : Nat} {a : Act} (h : FRel D ρ tm n a) {x : Operand} {v : Value} (hv : aev tm x = some v) : VR ρ v (a.eval x) := by
 cases x with
 | tmp t => exact (h.slot t v hv).2
 | const u =>
  rw [aev_const] at hv
  cases hc : closed u with
  | true => rw [hc] at hv; cases hv; exact closed_refl hc
  | false => rw [hc] at hv; cases hv
 | global g => exact glob_ev hv a
 | func f => cases hv; exact .func _ rfl (by simp) rfl (by simp)
theorem FRel.put {D : List Deferred} {ρ : Place} {tm : Tr Value} {n : Nat} {a : Act} (h : FRel D ρ tm n a) {d : Nat} {v v' : Value} (hd : d < n) (hv : VR ρ v v') : FRel D ρ (tm.put d (some v)) n (a.put (some d) v') := by
 refine ⟨by simp [Act.put, h.size], h.defers, fun t u hu => ?_⟩
 rw [Tr.get_put] at hu
 by_cases ht : t = d
 ·subst ht
  rw [if_pos rfl] at hu
  cases hu
  exact ⟨hd, by simpa [Act.put, Array.getD_eq_getD_getElem?, h.size, hd] using hv⟩
 ·rw [if_neg ht] at hu
  have := h.slot t u hu
  refine ⟨this.1, ?_⟩
  simpa [Act.put, Array.getD_eq_getD_getElem?, Array.getElem?_setIfInBounds_ne (Ne.symm ht)] using this.2
def ERel (ρ : Place) (ev : Operand → Option Value) (a : Act) : Prop := ∀ x v, ev x = some v → VR ρ v (a.eval x)
theorem ERel.eval {ρ : Place} {ev : Operand → Option Value} {a : Act} (h : ERel ρ ev a) {x : Operand} {v : Value} (hv : ev x = some v) : VR ρ v (a.eval x) := h x v hv
theorem FRel.ev {D : List Deferred} {ρ : Place} {tm : Tr Value} {n : Nat} {a : Act} (h : FRel D ρ tm n a) : ERel ρ (aev tm) a := fun _ _ hv => h.eval hv
theorem bind_run {P : Program} {α β : Type} {s : Sem α} {v : α} (h : pureRun P s = some v) (f : α → Sem β) (w : World) : (s >>= f).run P w = (f v).run P w := by
 induction s with
 | pure a => have h' : some a = some v := h; cases h'; rfl
 | program k ih => exact ih P h
 | mark m k ih => exact ih h
 | _ => exact nomatch (show (none : Option α) = some v from h)
theorem pureRun_bind {P : Program} {α β : Type} {s : Sem α} {v : α} (h : pureRun P s = some v) (f : α → Sem β) : pureRun P (s >>= f) = pureRun P (f v) := by
 induction s with
 | pure a => have h' : some a = some v := h; cases h'; rfl
 | program k ih => exact ih P h
 | mark m k ih => exact ih h
 | _ => exact nomatch (show (none : Option α) = some v from h)
def allClosed (ev : Operand → Option Value) (xs : Array Operand) : Bool := xs.all fun x => match ev x with | some v => closed v | none => false
def isSelect : Op → Bool
 | .select .. => true
 | _ => false
def scalar (P : Program) (o : Oper) (ev : Operand → Option Value) : Option Value :=
 bif allClosed ev o.op.operands && !isSelect o.op then
  match pureRun P (execOp (fun x => (ev x).getD undef) o) with
  | some (.value v) => bif closed v then some v else none
  | _ => none
 else none
theorem scalar_sound {P : Program} {ρ : Place} {ev : Operand → Option Value} {a : Act} (hF : ERel ρ ev a) {o : Oper} {v : Value} (h : scalar P o ev = some v) (w : World) :
  ∃ v', (execOp a.eval o).run P w = .ok (.value v') w ∧ VR ρ v v' := by
 unfold scalar at h
 cases hc : allClosed ev o.op.operands && !isSelect o.op with
 | false => rw [hc] at h; cases h
 | true =>
  rw [hc, cond_true] at h
  simp only [Bool.and_eq_true] at hc
  obtain ⟨hc, hs⟩ := hc
  have he : execOp a.eval o = execOp (fun x => (ev x).getD undef) o := by
   refine execOp_congr o (fun cs b e => by rw [e] at hs; cases hs) fun x hx => ?_
   have := Array.all_eq_true_iff_forall_mem.1 hc x hx
   cases hv : ev x with
   | none => rw [hv] at this; cases this
   | some u => rw [hv] at this; exact closed_eq this (hF.eval hv)
  rw [he]
  cases hr : pureRun P (execOp (fun x => (ev x).getD undef) o) with
  | none => rw [hr] at h; cases h
  | some nx =>
   rw [hr] at h
   cases nx <;> try cases h
   rename_i u
   cases hu : closed u with
   | false => simp [hu] at h
   | true =>
    simp [hu] at h
    subst h
    exact ⟨u, pureRun_run hr w, closed_refl hu⟩
theorem VR.cells {ρ : Place} {v v' : Value} (h : VR ρ v v') : VRA ρ v.cells v'.cells := by
 cases h with
 | agg hs hc => exact ⟨hs, hc⟩
 | _ =>
  refine ⟨rfl, fun i u u' hu hu' => ?_⟩
  simp only [Value.cells] at hu hu'
  cases i with
  | zero =>
   simp at hu hu'
   subst hu hu'
   constructor <;> assumption
  | succ i => simp at hu
def aPart (P : Program) (t : TypeId) (cs : Array Value) (off : Nat) : Option Value :=
 match pureRun P (isAgg t) with
 | some true => match pureRun P (sizeOf t) with
  | some z => some (.agg (cs.extract off (off + z)))
  | none => none
 | some false => cs[off]?
 | none => none
theorem aPart_sound {P : Program} {ρ : Place} {t : TypeId} {cs cs' : Array Value} {off : Nat} {v : Value} (hc : VRA ρ cs cs') (h : aPart P t cs off = some v) (w : World) :
  ∃ v', (part t cs' off).run P w = .ok v' w ∧ VR ρ v v' := by
 unfold aPart at h
 unfold part
 cases hi : pureRun P (isAgg t) with
 | none => rw [hi] at h; cases h
 | some b =>
  rw [bind_run hi]
  rw [hi] at h
  cases b with
  | true =>
   simp only [if_true]
   cases hz : pureRun P (sizeOf t) with
   | none => rw [hz] at h; cases h
   | some z =>
    rw [hz] at h
    cases h
    rw [bind_run hz]
    refine ⟨_, rfl, .agg ?_ fun i u u' hu hu' => ?_⟩
    ·simp [hc.1]
    ·rw [Array.getElem?_extract] at hu hu'
     split at hu
     ·split at hu'
      ·exact hc.2 _ _ _ hu hu'
      ·cases hu'
     ·cases hu
  | false =>
   simp only [Bool.false_eq_true, if_false]
   have h' : cs[off]? = some v := h
   obtain ⟨v', e, hv⟩ := hc.get h'
   rw [e]
   exact ⟨v', rfl, hv⟩
def aField (P : Program) (t : TypeId) (x : Value) (f : Nat) : Option Value :=
 match x with
 | .agg cs => match P.underlying t with
  | some (.struct fields) => match fields[f]? with
   | some fd => aPart P fd.type cs fd.offset
   | none => none
  | _ => none
 | _ => none
theorem underlying_pure {P : Program} {t : TypeId} {d : TypeDesc} (h : P.underlying t = some d) : pureRun P (underlying t) = some d := by
 unfold underlying
 show pureRun P (match P.underlying t with | some d => (pure d : Sem TypeDesc) | none => stuck "no such type") = some d
 rw [h]
 rfl
theorem aField_sound {P : Program} {ρ : Place} {t : TypeId} {x x' : Value} {f : Nat} {v : Value} (hx : VR ρ x x') (h : aField P t x f = some v) (w : World) :
  ∃ v', (Instr.field t x' f).run P w = .ok v' w ∧ VR ρ v v' := by
 unfold aField at h
 cases hx <;> simp only [reduceCtorEq] at h
 case agg cs cs' hs hc =>
  cases hu : P.underlying t with
  | none => rw [hu] at h; cases h
  | some d =>
   rw [hu] at h
   cases d <;> simp only [reduceCtorEq] at h
   case struct fields =>
    cases hf : fields[f]? with
    | none => rw [hf] at h; cases h
    | some fd =>
     rw [hf] at h
     unfold Instr.field
     rw [bind_run (underlying_pure hu)]
     simp only [hf]
     exact aPart_sound ⟨hs, hc⟩ h w
def aIndex (P : Program) (t : TypeId) (x i : Value) : Option Value :=
 match x, i with
 | .agg cs, .int _ n => match P.underlying t with
  | some (.array len elem) => bif decide (0 ≤ n ∧ n < len) then
    match pureRun P (sizeOf elem) with
    | some z => aPart P elem cs (n.toNat * z)
    | none => none
   else none
  | _ => none
 | _, _ => none
theorem aIndex_sound {P : Program} {ρ : Place} {t : TypeId} {x x' i i' : Value} {v : Value} (hx : VR ρ x x') (hi : VR ρ i i') (h : aIndex P t x i = some v) (w : World) :
  ∃ v', (Instr.index t x' i').run P w = .ok v' w ∧ VR ρ v v' := by
 unfold aIndex at h
 cases hx <;> try simp only [reduceCtorEq] at h
 case agg cs cs' hs hc =>
  cases hi <;> try simp only [reduceCtorEq] at h
  case int k n =>
   cases hu : P.underlying t with
   | none => rw [hu] at h; cases h
   | some d =>
    rw [hu] at h
    cases d <;> simp only [reduceCtorEq] at h
    case array len elem =>
     cases hb : decide (0 ≤ n ∧ n < (len : Int)) with
     | false => rw [hb] at h; cases h
     | true =>
      rw [hb, cond_true] at h
      have hb' := of_decide_eq_true hb
      cases hz : pureRun P (sizeOf elem) with
      | none => rw [hz] at h; cases h
      | some z =>
       rw [hz] at h
       unfold Instr.index
       show ∃ v', ((underlying t) >>= _).run P w = _ ∧ _
       rw [bind_run (underlying_pure hu)]
       dsimp only
       rw [if_pos hb', bind_run hz]
       exact aPart_sound ⟨hs, hc⟩ h w
inductive Parts (ρ : Place) : List (Nat × Value) → List (Nat × Value) → Prop where
 | nil : Parts ρ [] []
 | cons (i : Nat) {v v' : Value} {l l' : List (Nat × Value)} : VR ρ v v' → Parts ρ l l' → Parts ρ ((i, v) :: l) ((i, v') :: l')
theorem VRA.set {ρ : Place} {c c' : Array Value} (h : VRA ρ c c') (i : Nat) {v v' : Value} (hv : VR ρ v v') : VRA ρ (c.setIfInBounds i v) (c'.setIfInBounds i v') := by
 refine ⟨by simp [h.1], fun j u u' hu hu' => ?_⟩
 rw [Array.getElem?_setIfInBounds] at hu hu'
 by_cases hij : i = j
 ·rw [if_pos hij] at hu hu'
  split at hu
  ·split at hu'
   ·cases hu; cases hu'; exact hv
   ·cases hu'
  ·cases hu
 ·rw [if_neg hij] at hu hu'
  exact h.2 j u u' hu hu'
theorem foldl_set_list {ρ : Place} (off : Nat) : ∀ (l l' : List (Value × Nat)) (c c' : Array Value), l.length = l'.length → (∀ k : Nat, ∀ x x', l[k]? = some x → l'[k]? = some x' → VR ρ x.1 x'.1 ∧ x.2 = x'.2) → VRA ρ c c' →
  VRA ρ (l.foldl (fun cs (p : Value × Nat) => cs.setIfInBounds (off + p.2) p.1) c) (l'.foldl (fun cs (p : Value × Nat) => cs.setIfInBounds (off + p.2) p.1) c')
 | [], [], _, _, _, _, h => h
 | [], _ :: _, _, _, hl, _, _ => by simp at hl
 | _ :: _, [], _, _, hl, _, _ => by simp at hl
 | (v, j) :: l, (v', j') :: l', c, c', hl, hx, h => by
  have h0 := hx 0 (v, j) (v', j') rfl rfl
  have hj : j = j' := h0.2
  subst hj
  simp only [List.foldl_cons]
  exact foldl_set_list off l l' _ _ (by simpa using hl) (fun k x x' a b => hx (k + 1) x x' a b) (h.set _ h0.1)
theorem foldl_set {ρ : Place} (off : Nat) {d d' c c' : Array Value} (hd : VRA ρ d d') (hc : VRA ρ c c') :
  VRA ρ (d.zipIdx.foldl (fun cs (x, j) => cs.setIfInBounds (off + j) x) c) (d'.zipIdx.foldl (fun cs (x, j) => cs.setIfInBounds (off + j) x) c') := by
 rw [← Array.foldl_toList, ← Array.foldl_toList, Array.toList_zipIdx, Array.toList_zipIdx]
 refine foldl_set_list off _ _ c c' (by simp [hd.1]) (fun k x x' hx hx' => ?_) hc
 simp only [List.getElem?_zipIdx, Option.map_eq_some_iff] at hx hx'
 obtain ⟨v, hv, rfl⟩ := hx
 obtain ⟨v', hv', rfl⟩ := hx'
 exact ⟨hd.2 k v v' (by simpa using hv) (by simpa using hv'), rfl⟩
theorem fill_rel {ρ : Place} (place : Nat → Option (Nat × Nat)) : ∀ {l l' : List (Nat × Value)} {c c' r : Array Value}, Parts ρ l l' → VRA ρ c c' → Instr.fill place c l = some r →
  ∃ r', Instr.fill place c' l' = some r' ∧ VRA ρ r r' := by
 intro l l' c c' r hp
 induction hp generalizing c c' with
 | nil => intro hc h; simp only [Instr.fill] at h; cases h; exact ⟨c', rfl, hc⟩
 | cons i hv _ ih =>
  intro hc h
  simp only [Instr.fill] at h ⊢
  cases hpl : place i with
  | none => rw [hpl] at h; cases h
  | some oz =>
   obtain ⟨off, size⟩ := oz
   rw [hpl] at h
   simp only at h ⊢
   have hcl := hv.cells
   rw [← hcl.1, ← hc.1]
   split at h
   ·cases h
   ·rename_i hn
    rw [if_neg hn]
    exact ih (foldl_set off hcl hc) h
def aBuild (P : Program) (t : TypeId) (ps : List (Nat × Value)) : Option Value :=
 match pureRun P (zeroValue t), P.underlying t with
 | some z, some (.struct fields) => bif flats z.cells then
   match pureRun P (fields.mapM fun f => do pure (f.offset, ← sizeOf f.type)) with
   | some places => (Instr.fill (places[·]?) z.cells ps).map .agg
   | none => none
  else none
 | some z, some (.array _ elem) => bif flats z.cells then
   match pureRun P (sizeOf elem) with
   | some size => (Instr.fill (fun i => some (i * size, size)) z.cells ps).map .agg
   | none => none
  else none
 | _, _ => none
theorem flats_refl {ρ : Place} {c : Array Value} (h : flats c = true) : VRA ρ c c := ⟨rfl, arr_refl (fun _ => flat_refl) h⟩
theorem aBuild_sound {P : Program} {ρ : Place} {t : TypeId} {ps ps' : List (Nat × Value)} {v : Value} (hp : Parts ρ ps ps') (h : aBuild P t ps = some v) (w : World) :
  ∃ v', (Instr.build t ps'.toArray).run P w = .ok v' w ∧ VR ρ v v' := by
 unfold aBuild at h
 unfold Instr.build
 cases hz : pureRun P (zeroValue t) with
 | none => rw [hz] at h; cases h
 | some z =>
  rw [hz] at h
  rw [bind_run hz]
  cases hu : P.underlying t with
  | none => rw [hu] at h; cases h
  | some d =>
   rw [hu] at h
   dsimp only
   rw [bind_run (underlying_pure hu)]
   cases d <;> simp only [reduceCtorEq] at h
   case struct fields =>
    cases hf : flats z.cells with
    | false => rw [hf] at h; cases h
    | true =>
     rw [hf, cond_true] at h
     cases hpl : pureRun P (fields.mapM fun f => do pure (f.offset, ← sizeOf f.type)) with
     | none => rw [hpl] at h; cases h
     | some places =>
      rw [hpl] at h
      simp only [Option.map_eq_some_iff] at h
      obtain ⟨r, hr, rfl⟩ := h
      obtain ⟨r', e, hv⟩ := fill_rel _ hp (flats_refl hf) hr
      dsimp only
      rw [bind_run hpl]
      simp only [e]
      exact ⟨_, rfl, .agg hv.1 hv.2⟩
   case array len elem =>
    cases hf : flats z.cells with
    | false => rw [hf] at h; cases h
    | true =>
     rw [hf, cond_true] at h
     cases hpl : pureRun P (sizeOf elem) with
     | none => rw [hpl] at h; cases h
     | some size =>
      rw [hpl] at h
      simp only [Option.map_eq_some_iff] at h
      obtain ⟨r, hr, rfl⟩ := h
      obtain ⟨r', e, hv⟩ := fill_rel _ hp (flats_refl hf) hr
      dsimp only
      rw [bind_run hpl]
      simp only [e]
      exact ⟨_, rfl, .agg hv.1 hv.2⟩
end Go.Proofs.YtojlhapbngcjkaaGreatDoor

noncomputable section
namespace Go.Proofs.YtojlhapbngcjkaaGreatDoor
open Go
theorem add_eq (c s o k : Nat) : (⟨c, s + o, none⟩ : Addr).add k = ⟨c, s + (o + k), none⟩ := by
 unfold Addr.add
 split
 ·rename_i h; subst h; rfl
 ·simp [Nat.add_assoc]
def aFieldAddr (P : Program) (t : TypeId) (x : Value) (f : Nat) : Option Value :=
 match x with
 | .pointer (some ⟨b, o, none⟩) => match P.underlying t with
  | some (.struct fields) => match fields[f]? with
   | some fd => match pureRun P (sizeOf fd.type) with
    | some (_ + 1) => some (.pointer (some ⟨b, o + fd.offset, none⟩))
    | _ => none
   | none => none
  | _ => none
 | _ => none
theorem aFieldAddr_sound {P : Program} {ρ : Place} {t : TypeId} {x x' : Value} {f : Nat} {v : Value} (hx : VR ρ x x') (h : aFieldAddr P t x f = some v) (w : World) :
  ∃ v', (Instr.fieldAt t x' f).run P w = .ok v' w ∧ VR ρ v v' := by
 unfold aFieldAddr at h
 cases hx <;> try simp only [reduceCtorEq] at h
 case ptr b o c s z hb =>
  cases hu : P.underlying t with
  | none => rw [hu] at h; cases h
  | some d =>
   rw [hu] at h
   cases d <;> simp only [reduceCtorEq] at h
   case struct fields =>
    cases hf : fields[f]? with
    | none => rw [hf] at h; cases h
    | some fd =>
     rw [hf] at h
     dsimp only at h
     unfold Instr.fieldAt
     rw [bind_run (underlying_pure hu)]
     simp only [hf]
     cases hz : pureRun P (sizeOf fd.type) with
     | none => rw [hz] at h; cases h
     | some n =>
      rw [hz] at h
      cases n with
      | zero => cases h
      | succ n =>
       cases h
       show ∃ v', ((fieldPlace ⟨c, s + o, none⟩ fd) >>= _).run P w = _ ∧ _
       have : pureRun P (fieldPlace ⟨c, s + o, none⟩ fd) = some ((⟨c, s + o, none⟩ : Addr).add fd.offset) := by
        unfold fieldPlace
        have e : ∀ (β : Type) (g : Nat → Sem β), pureRun P (sizeOf fd.type >>= g) = pureRun P (g (n + 1)) := by
         intro β g
         exact pureRun_bind hz g
        rw [e]
        simp only [Nat.succ_ne_zero, if_false]
        rfl
       rw [bind_run this]
       refine ⟨_, rfl, ?_⟩
       rw [add_eq]
       exact .ptr hb
def aIndexAddr (P : Program) (t : TypeId) (x i : Value) : Option Value :=
 match i with
 | .int _ n => match P.underlying t, x with
  | some (.array len elem), .pointer (some ⟨b, o, none⟩) => bif decide (0 ≤ n ∧ n < len) then
    match pureRun P (sizeOf elem) with
    | some z => some (.pointer (some ⟨b, o + n.toNat * z, none⟩))
    | none => none
   else none
  | some (.slice elem), .slice (some ⟨b, o, none⟩) len _ => bif decide (0 ≤ n ∧ n < len) then
    match pureRun P (sizeOf elem) with
    | some z => some (.pointer (some ⟨b, o + n.toNat * z, none⟩))
    | none => none
   else none
  | _, _ => none
 | _ => none
theorem aIndexAddr_sound {P : Program} {ρ : Place} {t : TypeId} {x x' i i' : Value} {v : Value} (hx : VR ρ x x') (hi : VR ρ i i') (h : aIndexAddr P t x i = some v) (w : World) :
  ∃ v', (Instr.indexAt t x' i').run P w = .ok v' w ∧ VR ρ v v' := by
 unfold aIndexAddr at h
 cases hi <;> try simp only [reduceCtorEq] at h
 case int k n =>
  cases hu : P.underlying t with
  | none => rw [hu] at h; cases h
  | some d =>
   rw [hu] at h
   unfold Instr.indexAt
   cases d <;> try simp only [reduceCtorEq] at h
   case array len elem =>
    cases hx <;> try simp only [reduceCtorEq] at h
    case ptr b o c s z hb =>
     cases hd : decide (0 ≤ n ∧ n < (len : Int)) with
     | false => rw [hd] at h; cases h
     | true =>
      rw [hd, cond_true] at h
      have hd' := of_decide_eq_true hd
      cases hz : pureRun P (sizeOf elem) with
      | none => rw [hz] at h; cases h
      | some m =>
       rw [hz] at h
       cases h
       show ∃ v', ((underlying t) >>= _).run P w = _ ∧ _
       rw [bind_run (underlying_pure hu)]
       show ∃ v', ((underlying t) >>= _).run P w = _ ∧ _
       rw [bind_run (underlying_pure hu)]
       dsimp only
       rw [if_pos hd', bind_run hz]
       refine ⟨_, rfl, ?_⟩
       rw [add_eq]
       exact .ptr hb
   case slice elem =>
    cases hx <;> try simp only [reduceCtorEq] at h
    case slice b o len sz c s z cap hb h1 h2 =>
     cases hd : decide (0 ≤ n ∧ n < (len : Int)) with
     | false => rw [hd] at h; cases h
     | true =>
      rw [hd, cond_true] at h
      have hd' := of_decide_eq_true hd
      cases hz : pureRun P (sizeOf elem) with
      | none => rw [hz] at h; cases h
      | some m =>
       rw [hz] at h
       cases h
       show ∃ v', ((underlying t) >>= _).run P w = _ ∧ _
       rw [bind_run (underlying_pure hu)]
       show ∃ v', ((underlying t) >>= _).run P w = _ ∧ _
       rw [bind_run (underlying_pure hu)]
       dsimp only
       rw [if_pos hd', bind_run hz]
       refine ⟨_, rfl, ?_⟩
       rw [add_eq]
       exact .ptr hb
    case emptySlice b o y a' sz hb =>
     exfalso
     revert h
     have : decide (0 ≤ n ∧ n < ((0 : Nat) : Int)) = false := by simp
     rw [this]
     simp
def aBound (ev : Operand → Option Value) (dflt : Nat) : Option Operand → Option Nat
 | none => some dflt
 | some x => match ev x with
  | some (.int _ n) => bif decide (0 ≤ n) then some n.toNat else none
  | _ => none
def aSlice (P : Program) (ev : Operand → Option Value) (t : TypeId) (x : Value) (lo hi : Option Operand) : Option Value :=
 match P.underlying t, x with
 | some (.slice elem), .slice (some ⟨b, o, none⟩) len sz =>
  match pureRun P (sizeOf elem), aBound ev len hi, aBound ev 0 lo with
  | some z, some h, some l => bif (z.beq sz && h.ble len && l.ble h) then some (.slice (some ⟨b, o + l * sz, none⟩) (h - l) sz) else none
  | _, _, _ => none
 | _, _ => none
theorem aBound_sound {P : Program} {ρ : Place} {ev : Operand → Option Value} {a : Act} (hF : ERel ρ ev a) {d : Nat} {x : Operand} {k y : Nat} {code : BoundsCode} (h : aBound ev d (some x) = some k) (hy : k ≤ y) :
  pureRun P (Instr.sliceBound (a.eval x) y code) = some k := by
 simp only [aBound] at h
 cases hv : ev x with
 | none => rw [hv] at h; cases h
 | some v =>
  rw [hv] at h
  have := hF.eval hv
  generalize he : a.eval x = e at this
  cases this <;> try simp only [reduceCtorEq] at h
  rename_i kd m
  cases hd : decide (0 ≤ m) with
  | false => rw [hd] at h; cases h
  | true =>
   rw [hd, cond_true] at h
   cases h
   have h0 := of_decide_eq_true hd
   unfold Instr.sliceBound
   show pureRun P (if 0 ≤ m ∧ m ≤ (y : Int) then _ else _) = _
   rw [if_pos ⟨h0, by omega⟩]
   rfl
theorem aSlice_sound {P : Program} {ρ : Place} {ev : Operand → Option Value} {a : Act} (hF : ERel ρ ev a) {t : TypeId} {x x' : Value} {lo hi : Option Operand} {v : Value} (hx : VR ρ x x')
  (h : aSlice P ev t x lo hi = some v) (w : World) :
  ∃ v', (Instr.sliceAt t x' (lo.map a.eval) (hi.map a.eval) none).run P w = .ok v' w ∧ VR ρ v v' := by
 unfold aSlice at h
 cases hu : P.underlying t with
 | none => rw [hu] at h; cases h
 | some d =>
  rw [hu] at h
  cases d <;> try simp only [reduceCtorEq] at h
  case slice elem =>
   have key : ∀ (b o len sz : Nat) (A : Addr) (cap : Nat), len ≤ cap →
     (∀ l h', l ≤ h' → h' ≤ len → VR ρ (.slice (some ⟨b, o + l * sz, none⟩) (h' - l) sz) (.slice (if cap = l then some A else some (A.add (l * sz))) (h' - l) (cap - l))) →
     (match pureRun P (sizeOf elem), aBound ev len hi, aBound ev 0 lo with
      | some z, some h, some l => bif (z.beq sz && h.ble len && l.ble h) then some (.slice (some ⟨b, o + l * sz, none⟩) (h - l) sz) else none
      | _, _, _ => none) = some v →
     ∃ v', (Instr.sliceAt t (.slice (some A) len cap) (lo.map a.eval) (hi.map a.eval) none).run P w = .ok v' w ∧ VR ρ v v' := by
    intro b o len sz A cap hlc hV hh
    cases hz : pureRun P (sizeOf elem) with
    | none => rw [hz] at hh; simp at hh
    | some z =>
     cases hhi : aBound ev len hi with
     | none => rw [hz, hhi] at hh; simp at hh
     | some h' =>
      cases hlo : aBound ev 0 lo with
      | none => rw [hz, hhi, hlo] at hh; simp at hh
      | some l =>
       rw [hz, hhi, hlo] at hh
       simp only at hh
       cases hc : (z.beq sz && h'.ble len && l.ble h') with
       | false => rw [hc] at hh; cases hh
       | true =>
        rw [hc, cond_true] at hh
        cases hh
        simp only [Bool.and_eq_true] at hc
        obtain ⟨⟨hz1, hl1⟩, hl2⟩ := hc
        have hz1 := Nat.eq_of_beq_eq_true hz1
        have hl1 := Nat.le_of_ble_eq_true hl1
        have hl2 := Nat.le_of_ble_eq_true hl2
        subst hz1
        have hb : pureRun P (Instr.sliceBounds true len cap (lo.map a.eval) (hi.map a.eval) none) = some (l, h', cap) := by
         unfold Instr.sliceBounds
         cases hi with
         | none =>
          simp only [aBound] at hhi
          cases hhi
          cases lo with
          | none => simp only [aBound] at hlo; cases hlo; rfl
          | some y =>
           show pureRun P (Instr.sliceBound (a.eval y) _ _ >>= _) = _
           rw [pureRun_bind (aBound_sound hF hlo hl2)]
           rfl
         | some x =>
          show pureRun P (Instr.sliceBound (a.eval x) _ _ >>= _) = _
          rw [pureRun_bind (aBound_sound hF hhi (by omega))]
          cases lo with
          | none => simp only [aBound] at hlo; cases hlo; rfl
          | some y =>
           show pureRun P (Instr.sliceBound (a.eval y) _ _ >>= _) = _
           rw [pureRun_bind (aBound_sound hF hlo hl2)]
           rfl
        unfold Instr.sliceAt
        rw [bind_run (underlying_pure hu)]
        dsimp only
        unfold Instr.slice
        rw [bind_run (underlying_pure hu)]
        dsimp only
        rw [bind_run hb]
        dsimp only
        rw [bind_run hz]
        refine ⟨_, rfl, ?_⟩
        exact hV l h' hl2 hl1
   cases hx <;> try simp only [reduceCtorEq] at h
   case slice b o len sz c s z cap hb h1 h2 =>
    refine key b o len sz ⟨c, s + o, none⟩ cap h1 ?_ h
    intro l h' hl hh
    by_cases hcl : cap = l
    ·rw [if_pos hcl]
     have e1 : h' - l = 0 := by omega
     have e2 : cap - l = 0 := by omega
     rw [e1, e2]
     exact .emptySlice _ hb
    ·rw [if_neg hcl, add_eq]
     refine .slice hb (by omega) ?_
     have : s + (o + l * sz) + (cap - l) * sz = s + o + cap * sz := by
      have : cap * sz = l * sz + (cap - l) * sz := by rw [← Nat.add_mul]; congr 1; omega
      omega
     omega
   case emptySlice b o y a' sz hb =>
    refine key b o 0 sz a' 0 (Nat.le_refl _) ?_ h
    intro l h' hl hh
    have : l = 0 := by omega
    have h2 : h' = 0 := by omega
    subst this h2
    exact .emptySlice _ hb
end Go.Proofs.YtojlhapbngcjkaaGreatDoor

noncomputable section
namespace Go.Proofs.YtojlhapbngcjkaaGreatDoor
open Go
inductive VRL (ρ : Place) : List Value → List Value → Prop where
 | nil : VRL ρ [] []
 | cons {v v' : Value} {l l' : List Value} : VR ρ v v' → VRL ρ l l' → VRL ρ (v :: l) (v' :: l')
theorem VRL.mono {ρ ρ' : Place} (h : ρ.le ρ') {l l' : List Value} (hl : VRL ρ l l') : VRL ρ' l l' := by
 induction hl with
 | nil => exact .nil
 | cons hv _ ih => exact .cons (hv.mono h) ih
theorem VRL.len {ρ : Place} {l l' : List Value} (hl : VRL ρ l l') : l.length = l'.length := by
 induction hl with
 | nil => rfl
 | cons _ _ ih => simp [ih]
theorem VRL.get {ρ : Place} {l l' : List Value} (hl : VRL ρ l l') : ∀ {i : Nat} {v v' : Value}, l[i]? = some v → l'[i]? = some v' → VR ρ v v' := by
 induction hl with
 | nil => intro i v v' h; simp at h
 | cons hv _ ih =>
  intro i v v' h h'
  cases i with
  | zero => simp at h h'; subst h h'; exact hv
  | succ i => exact ih (by simpa using h) (by simpa using h')
theorem VRL.arr {ρ : Place} {l l' : List Value} (hl : VRL ρ l l') : VRA ρ l.toArray l'.toArray :=
 ⟨by simp [hl.len], fun i v v' h h' => hl.get (by simpa using h) (by simpa using h')⟩
theorem VRL.of {ρ : Place} : ∀ {l l' : List Value}, l.length = l'.length → (∀ (i : Nat) (v v' : Value), l[i]? = some v → l'[i]? = some v' → VR ρ v v') → VRL ρ l l'
 | [], [], _, _ => .nil
 | [], _ :: _, h, _ => by simp at h
 | _ :: _, [], h, _ => by simp at h
 | v :: l, v' :: l', h, hv => .cons (hv 0 v v' rfl rfl) (VRL.of (by simpa using h) fun i u u' a b => hv (i + 1) u u' a b)
theorem VRA.list {ρ : Place} {c c' : Array Value} (h : VRA ρ c c') : VRL ρ c.toList c'.toList :=
 .of (by simp [h.1]) fun i v v' a b => h.2 i v v' (by simpa using a) (by simpa using b)
theorem VRL.append {ρ : Place} {l l' m m' : List Value} (hl : VRL ρ l l') (hm : VRL ρ m m') : VRL ρ (l ++ m) (l' ++ m') := by
 induction hl with
 | nil => exact hm
 | cons hv _ ih => exact .cons hv ih
def evL (ev : Operand → Option Value) : List Operand → Option (List Value)
 | [] => some []
 | x :: l => match ev x with
  | some v => match evL ev l with
   | some vs => some (v :: vs)
   | none => none
  | none => none
theorem evL_sound {ρ : Place} {ev : Operand → Option Value} {a : Act} (hF : ERel ρ ev a) : ∀ {l : List Operand} {vs : List Value}, evL ev l = some vs → VRL ρ vs (l.map a.eval)
 | [], vs, h => by simp only [evL] at h; cases h; exact .nil
 | x :: l, vs, h => by
  simp only [evL] at h
  cases hv : ev x with
  | none => rw [hv] at h; cases h
  | some v =>
   rw [hv] at h
   cases hl : evL ev l with
   | none => rw [hl] at h; cases h
   | some us => rw [hl] at h; cases h; exact .cons (hF.eval hv) (evL_sound hF hl)
def evP (ev : Operand → Option Value) : List (Nat × Operand) → Option (List (Nat × Value))
 | [] => some []
 | (i, x) :: l => match ev x with
  | some v => match evP ev l with
   | some vs => some ((i, v) :: vs)
   | none => none
  | none => none
theorem evP_sound {ρ : Place} {ev : Operand → Option Value} {a : Act} (hF : ERel ρ ev a) : ∀ {l : List (Nat × Operand)} {vs : List (Nat × Value)}, evP ev l = some vs → Parts ρ vs (l.map fun p => (p.1, a.eval p.2))
 | [], vs, h => by simp only [evP] at h; cases h; exact .nil
 | (i, x) :: l, vs, h => by
  simp only [evP] at h
  cases hv : ev x with
  | none => rw [hv] at h; cases h
  | some v =>
   rw [hv] at h
   cases hl : evP ev l with
   | none => rw [hl] at h; cases h
   | some us => rw [hl] at h; cases h; exact .cons i (hF.eval hv) (evP_sound hF hl)
def eqRes (b : Bool) : BinOp → Option Value
 | .eql => some (.bool b)
 | .neq => some (.bool (!b))
 | _ => none
def aEq (P : Program) (op : BinOp) (t : TypeId) (x y : Value) : Option Value :=
 match x, y with
 | .pointer (some _), .pointer none | .pointer none, .pointer (some _) => match P.underlying t with
  | some (.pointer _) => eqRes false op
  | _ => none
 | .slice (some _) _ _, .slice none _ _ | .slice none _ _, .slice (some _) _ _ => match P.underlying t with
  | some (.slice _) => eqRes false op
  | _ => none
 | .func (.func _) _ _, .nilFunc | .nilFunc, .func (.func _) _ _ => match P.underlying t with
  | some (.func _ _ _) => eqRes false op
  | _ => none
 | .iface _ _, .nilIface | .nilIface, .iface _ _ => match P.underlying t with
  | some (.interface _) => eqRes false op
  | _ => none
 | _, _ => none
theorem eqRes_sound {P : Program} {op : BinOp} {t : TypeId} {x y : Operand} {X Y : Value} {b : Bool} {v : Value} (h : eqRes b op = some v)
  (hg : ∀ op, pureRun P (eqGuard op t x y X Y) = some ()) (he : pureRun P (Op.equal t X Y) = some b)
  (hb : ∀ op, (op = .eql → binOp op t X Y = do pure (.bool (← Op.equal t X Y))) ∧ (op = .neq → binOp op t X Y = do pure (.bool (!(← Op.equal t X Y))))) (w : World) :
  ((do eqGuard op t x y X Y; binOp op t X Y) >>= fun r => pure (Next.value r)).run P w = .ok (.value v) w := by
 have : pureRun P (do eqGuard op t x y X Y; binOp op t X Y) = some v := by
  rw [pureRun_bind (hg op)]
  cases op <;> simp only [eqRes, reduceCtorEq, Option.some.injEq] at h
  case eql => rw [(hb .eql).1 rfl, pureRun_bind he, ← h]; rfl
  case neq => rw [(hb .neq).2 rfl, pureRun_bind he, ← h]; rfl
 rw [bind_run this]
 rfl
theorem eqS {P : Program} {t : TypeId} {X Y : Value} {b : Bool} {d : TypeDesc} {g : Nat → TypeDesc → Sem Bool} (hd : P.underlying t = some d) (n : Nat) (he : ∀ n, Op.equalIn (n + 1) t X Y = underlying t >>= g n)
  (hg : pureRun P (g n d) = some b) : pureRun P (Op.equalIn (n + 1) t X Y) = some b := by
 rw [he, pureRun_bind (underlying_pure hd)]
 exact hg
theorem aEq_sound {P : Program} {ρ : Place} {op : BinOp} {t : TypeId} {x y : Operand} {u u' z z' v : Value} (hu : VR ρ u u') (hz : VR ρ z z') (h : aEq P op t u z = some v) (w : World) :
  ((do eqGuard op t x y u' z'; binOp op t u' z') >>= fun r => pure (Next.value r)).run P w = .ok (.value v) w := by
 unfold aEq at h
 have eqI : ∀ X Y, Op.equal t X Y = Op.equalIn (9999 + 1) t X Y := fun _ _ => rfl
 split at h
 all_goals first
  | (cases hd : P.underlying t with
   | none => rw [hd] at h; cases h
   | some d =>
    rw [hd] at h
    cases d <;> try (simp only [reduceCtorEq] at h)
    cases hu <;> cases hz <;>
    exact eqRes_sound h (fun op => by cases op <;> rfl) ((congrArg (pureRun P) (eqI _ _)).trans (eqS hd 9999 (by intro d; simp only [Op.equalIn]; rfl) rfl)) (fun op => ⟨fun e => by subst e; rfl, fun e => by subst e; rfl⟩) w)
  | cases h
end Go.Proofs.YtojlhapbngcjkaaGreatDoor

noncomputable section
namespace Go.Proofs.YtojlhapbngcjkaaGreatDoor
open Go
def aLen (P : Program) (c : Call) (ev : Operand → Option Value) : Option Value :=
 match c.callee, c.argTypes[0]?, c.args[0]? with
 | .builtin .len, some t, some x => match ev x with
  | some (.slice _ n _) => match P.underlying t with
   | some (.slice _) => some (goInt n)
   | _ => none
  | _ => none
 | _, _, _ => none
def fwrap : Int → Option Value
 | .ofNat m => bif Nat.blt m 9223372036854775808 then some (.int .i64 (.ofNat m)) else none
 | .negSucc m => bif Nat.blt m 9223372036854775808 then some (.int .i64 (.negSucc m)) else none
def ilt : Int → Int → Bool
 | .ofNat m, .ofNat n => Nat.blt m n
 | .ofNat _, .negSucc _ => false
 | .negSucc _, .ofNat _ => true
 | .negSucc m, .negSucc n => Nat.blt n m
def ieq : Int → Int → Bool
 | .ofNat m, .ofNat n => Nat.beq m n
 | .negSucc m, .negSucc n => Nat.beq m n
 | _, _ => false
theorem fwrap_eq {n : Int} {v : Value} (h : fwrap n = some v) : v = .int .i64 (IntKind.i64.wrap n) := by
 have key : ∀ n : Int, -9223372036854775808 ≤ n → n < 9223372036854775808 → IntKind.i64.wrap n = n := by
  intro n h1 h2
  have e : IntKind.i64.wrap n = if (n % 18446744073709551616 : Int) ≥ 9223372036854775808 then n % 18446744073709551616 - 18446744073709551616 else n % 18446744073709551616 := by
   unfold IntKind.wrap
   simp [IntKind.signed, IntKind.bits]
  rw [e]
  split <;> omega
 cases n with
 | ofNat m =>
  simp only [fwrap] at h
  cases hb : Nat.blt m 9223372036854775808 with
  | false => rw [hb] at h; cases h
  | true =>
   rw [hb] at h
   cases h
   have : m < 9223372036854775808 := Nat.le_of_ble_eq_true hb
   rw [key _ (by show (-9223372036854775808 : Int) ≤ (m : Int); omega) (by show (m : Int) < 9223372036854775808; omega)]
 | negSucc m =>
  simp only [fwrap] at h
  cases hb : Nat.blt m 9223372036854775808 with
  | false => rw [hb] at h; cases h
  | true =>
   rw [hb] at h
   cases h
   have : m < 9223372036854775808 := Nat.le_of_ble_eq_true hb
   rw [key _ (by omega) (by omega)]
theorem ilt_eq (a b : Int) : ilt a b = decide (a < b) := by
 cases a <;> cases b <;> simp only [ilt]
 ·rw [Bool.eq_iff_iff]; simp [Nat.blt_eq]
 ·symm; simp; omega
 ·symm; simp; omega
 ·rw [Bool.eq_iff_iff]; simp [Nat.blt_eq]; omega
theorem ieq_eq (a b : Int) : ieq a b = (a == b) := by
 cases a <;> cases b <;> simp only [ieq]
 ·rw [Bool.eq_iff_iff]; simp; omega
 ·symm; simp
 ·symm; simp
 ·rw [Bool.eq_iff_iff]; simp
def fbin (op : BinOp) : Value → Value → Option Value
 | .int .i64 a, .int .i64 b => match op with
  | .add => fwrap (a + b)
  | .sub => fwrap (a - b)
  | .mul => fwrap (a * b)
  | .eql => some (.bool (ieq a b))
  | .neq => some (.bool (!ieq a b))
  | .lss => some (.bool (ilt a b))
  | .leq => some (.bool (!ilt b a))
  | .gtr => some (.bool (ilt b a))
  | .geq => some (.bool (!ilt a b))
  | _ => none
 | _, _ => none
theorem fbin_sound {P : Program} {op : BinOp} {t : TypeId} {x y : Operand} {u z v : Value} (h : fbin op u z = some v) (w : World) :
  ((do eqGuard op t x y u z; binOp op t u z) >>= fun r => pure (Next.value r)).run P w = .ok (.value v) w ∧ closed v = true ∧ flat u = true ∧ flat z = true := by
 unfold fbin at h
 split at h
 case h_2 => cases h
 rename_i a b
 have main : ∀ s : Sem Value, binOp op t (.int .i64 a) (.int .i64 b) = s → pureRun P s = some v → ((do eqGuard op t x y (.int .i64 a) (.int .i64 b); binOp op t (.int .i64 a) (.int .i64 b)) >>= fun r => pure (Next.value r)).run P w = .ok (.value v) w := by
  intro s hs hp
  have hg : pureRun P (eqGuard op t x y (.int .i64 a) (.int .i64 b)) = some () := by cases op <;> rfl
  have : pureRun P (do eqGuard op t x y (.int .i64 a) (.int .i64 b); binOp op t (.int .i64 a) (.int .i64 b)) = some v := by rw [pureRun_bind hg, hs]; exact hp
  rw [bind_run this]
  rfl
 cases op <;> simp only [reduceCtorEq, Option.some.injEq] at h
 case add => have e := fwrap_eq h; subst e; exact ⟨main _ rfl rfl, rfl, rfl, rfl⟩
 case sub => have e := fwrap_eq h; subst e; exact ⟨main _ rfl rfl, rfl, rfl, rfl⟩
 case mul => have e := fwrap_eq h; subst e; exact ⟨main _ rfl rfl, rfl, rfl, rfl⟩
 case eql => subst h; exact ⟨main _ rfl (by rw [ieq_eq]; rfl), rfl, rfl, rfl⟩
 case neq => subst h; exact ⟨main _ rfl (by rw [ieq_eq]; rfl), rfl, rfl, rfl⟩
 case lss => subst h; exact ⟨main _ rfl (by rw [ilt_eq]; rfl), rfl, rfl, rfl⟩
 case leq => subst h; exact ⟨main _ rfl (by rw [ilt_eq, show (!decide (b < a)) = decide (a ≤ b) by rw [Bool.eq_iff_iff]; simp]; rfl), rfl, rfl, rfl⟩
 case gtr => subst h; exact ⟨main _ rfl (by rw [ilt_eq]; rfl), rfl, rfl, rfl⟩
 case geq => subst h; exact ⟨main _ rfl (by rw [ilt_eq, show (!decide (a < b)) = decide (a ≥ b) by rw [Bool.eq_iff_iff]; simp]; rfl), rfl, rfl, rfl⟩
def apure (P : Program) (o : Oper) (ev : Operand → Option Value) : Option Value :=
 match o.op with
 | .move x | .assign x => ev x
 | .pick c x y => match ev c with
  | some (.bool true) => ev x
  | some (.bool false) => ev y
  | _ => none
 | .nilCheck x => match ev x with
  | some (.pointer (some a)) => some (.pointer (some a))
  | _ => scalar P o ev
 | .field t x f => match ev x with
  | some v => aField P t v f
  | none => none
 | .index t x i => match ev x, ev i with
  | some (.agg c), some j => aIndex P t (.agg c) j
  | _, _ => scalar P o ev
 | .extract x i => match ev x with
  | some (.tuple vs) => vs[i]?
  | _ => none
 | .build t ps => match evP ev ps.toList with
  | some l => aBuild P t l
  | none => none
 | .fieldAddr t x f => match ev x with
  | some v => aFieldAddr P t v f
  | none => none
 | .indexAddr t x i => match ev x, ev i with
  | some v, some j => aIndexAddr P t v j
  | _, _ => none
 | .slice t x lo hi none => match ev x with
  | some (.slice (some a) n c) => aSlice P ev t (.slice (some a) n c) lo hi
  | _ => scalar P o ev
 | .makeFunc (.func k) f c => match evL ev f.toList, evL ev c.toList with
  | some f', some c' => some (.func (.func k) f'.toArray c'.toArray)
  | _, _ => none
 | .makeInterface t x => match P.underlying t with
  | some (.interface _) => none
  | some _ => (ev x).map (.iface t)
  | none => none
 | .call c => match aLen P c ev with
  | some v => some v
  | none => scalar P o ev
 | .binOp op t x y _ => match ev x, ev y with
  | some v, some u => match fbin op v u with
   | some r => some r
   | none => match aEq P op t v u with
    | some b => some b
    | none => scalar P o ev
  | _, _ => none
 | _ => scalar P o ev
theorem aLen_sound {P : Program} {ρ : Place} {ev : Operand → Option Value} {a : Act} (hF : ERel ρ ev a) {o : Oper} {c : Call} (ho : o.op = .call c) {v : Value} (h : aLen P c ev = some v) (w : World) :
  ∃ v', (execOp a.eval o).run P w = .ok (.value v') w ∧ VR ρ v v' := by
 obtain ⟨callee, args, argTypes⟩ := c
 unfold aLen at h
 dsimp only at h
 split at h
 ·rename_i t x hty har
  cases hv : ev x with
  | none => rw [hv] at h; cases h
  | some u =>
   rw [hv] at h
   have hx := hF.eval hv
   generalize he : a.eval x = e at hx
   have main : ∀ (A A' : Option Addr) (k m m' : Nat), u = .slice A k m → e = .slice A' k m' → ∃ v', (execOp a.eval o).run P w = .ok (.value v') w ∧ VR ρ v v' := by
    intro A A' k m m' hu' he'
    subst hu'
    dsimp only at h
    cases hu : P.underlying t with
    | none => rw [hu] at h; cases h
    | some d =>
     rw [hu] at h
     cases d <;> simp only [reduceCtorEq] at h
     cases h
     refine ⟨goInt k, ?_, .int _ _⟩
     unfold execOp
     rw [ho]
     simp only [resolve]
     have hl : pureRun P (Builtin.len_ argTypes o.type (args.map a.eval)) = some (goInt k) := by
      unfold Builtin.len_
      have : (args.map a.eval)[0]? = some (.slice A' k m') := by rw [Array.getElem?_map, har]; simp [he, he']
      rw [hty, this]
      dsimp only
      rw [pureRun_bind (underlying_pure hu)]
      rfl
     show ((Builtin.len_ argTypes o.type (args.map a.eval)) >>= fun r => pure (Next.value r)).run P w = _
     rw [bind_run hl]
     rfl
   cases hx <;> try simp only [reduceCtorEq] at h
   case nilSlice => exact main _ _ _ _ _ rfl rfl
   case slice => exact main _ _ _ _ _ rfl rfl
   case emptySlice => exact main _ _ _ _ _ rfl rfl
 ·cases h
theorem value_run {P : Program} {s : Sem Value} {w w' : World} {v : Value} (h : s.run P w = .ok v w') : (s >>= fun r => pure (Next.value r)).run P w = .ok (.value v) w' := by
 rw [Sem.run_bind, h]
 rfl
theorem apure_sound {P : Program} {ρ : Place} {ev : Operand → Option Value} {a : Act} (hF : ERel ρ ev a) {o : Oper} {v : Value} (h : apure P o ev = some v) (w : World) :
  ∃ v', (execOp a.eval o).run P w = .ok (.value v') w ∧ VR ρ v v' := by
 have hsc : ∀ {v}, scalar P o ev = some v → ∃ v', (execOp a.eval o).run P w = .ok (.value v') w ∧ VR ρ v v' := fun h => scalar_sound hF h w
 obtain ⟨dst, op, type, pos, after, guard⟩ := o
 unfold apure at h
 cases op <;> dsimp only at h
 case move x => exact ⟨_, rfl, hF.eval h⟩
 case assign x => exact ⟨_, rfl, hF.eval h⟩
 case pick c x y =>
  cases hc : ev c with
  | none => rw [hc] at h; cases h
  | some u =>
   rw [hc] at h
   have hx := hF.eval hc
   generalize he : a.eval c = e at hx
   cases hx <;> try simp only [reduceCtorEq] at h
   rename_i b
   refine ⟨if b then a.eval x else a.eval y, ?_, ?_⟩
   ·show ((asBool (a.eval c)) >>= fun t => pure (Next.value (if t then a.eval x else a.eval y))).run P w = _
    rw [he]
    rfl
   ·cases b
    ·exact hF.eval h
    ·exact hF.eval h
 case nilCheck x =>
  split at h
  ·rename_i A hx
   cases h
   have hv := hF.eval hx
   cases hE : a.eval x <;> rw [hE] at hv <;> try (cases hv)
   rename_i hb
   refine ⟨_, ?_, .ptr hb⟩
   unfold execOp
   dsimp only
   rw [hE]
   rfl
  ·exact hsc h
 case field t x f =>
  cases hx : ev x with
  | none => rw [hx] at h; cases h
  | some u =>
   rw [hx] at h
   obtain ⟨v', e, hv⟩ := aField_sound (hF.eval hx) h w
   exact ⟨v', value_run e, hv⟩
 case index t x i =>
  split at h
  ·rename_i c j hx hi
   obtain ⟨v', e, hv⟩ := aIndex_sound (hF.eval hx) (hF.eval hi) h w
   exact ⟨v', value_run e, hv⟩
  ·exact hsc h
 case extract x i =>
  split at h
  ·rename_i vs hx
   have hv := hF.eval hx
   cases hE : a.eval x <;> rw [hE] at hv <;> try (cases hv)
   rename_i vs' hs hc
   obtain ⟨v', e, hv⟩ := VRA.get ⟨hs, hc⟩ h
   refine ⟨v', ?_, hv⟩
   unfold execOp
   dsimp only
   rw [hE]
   exact value_run (s := Instr.extract (.tuple vs') i) (by unfold Instr.extract; dsimp only; rw [e]; rfl)
  ·cases h
 case build t ps =>
  cases hx : evP ev ps.toList with
  | none => rw [hx] at h; cases h
  | some l =>
   rw [hx] at h
   obtain ⟨v', e, hv⟩ := aBuild_sound (evP_sound hF hx) h w
   refine ⟨v', ?_, hv⟩
   unfold execOp
   dsimp only
   refine value_run ?_
   rw [← e]
   congr 2
   apply Array.ext'
   simp
 case fieldAddr t x f =>
  cases hx : ev x with
  | none => rw [hx] at h; cases h
  | some u =>
   rw [hx] at h
   obtain ⟨v', e, hv⟩ := aFieldAddr_sound (hF.eval hx) h w
   exact ⟨v', value_run e, hv⟩
 case indexAddr t x i =>
  split at h
  ·rename_i u j hx hi
   obtain ⟨v', e, hv⟩ := aIndexAddr_sound (hF.eval hx) (hF.eval hi) h w
   exact ⟨v', value_run e, hv⟩
  ·cases h
 case slice t x lo hi mx =>
  cases mx with
  | some m => exact hsc h
  | none =>
   dsimp only at h
   split at h
   ·rename_i A k c hx
    obtain ⟨v', e, hv⟩ := aSlice_sound hF (hF.eval hx) h w
    exact ⟨v', value_run e, hv⟩
   ·exact hsc h
 case makeFunc fn f c =>
  cases fn <;> try exact hsc h
  rename_i k
  dsimp only at h
  split at h
  ·rename_i f' c' hf hc
   cases h
   have h1 := (evL_sound hF hf).arr
   have h2 := (evL_sound hF hc).arr
   refine ⟨.func (.func k) (f.map a.eval) (c.map a.eval), rfl, ?_⟩
   have e1 : (f.toList.map a.eval).toArray = f.map a.eval := by apply Array.ext'; simp
   have e2 : (c.toList.map a.eval).toArray = c.map a.eval := by apply Array.ext'; simp
   rw [e1] at h1
   rw [e2] at h2
   exact .func k h1.1 h1.2 h2.1 h2.2
  ·cases h
 case makeInterface t x =>
  cases hu : P.underlying t with
  | none => rw [hu] at h; cases h
  | some d =>
   rw [hu] at h
   have main : (∀ ms, d ≠ .interface ms) → (ev x).map (Value.iface t) = some v → ∃ v', (execOp a.eval ⟨dst, .makeInterface t x, type, pos, after, guard⟩).run P w = .ok (.value v') w ∧ VR ρ v v' := by
    intro hd hh
    simp only [Option.map_eq_some_iff] at hh
    obtain ⟨u, hx, rfl⟩ := hh
    refine ⟨.iface t (a.eval x), ?_, .iface t (hF.eval hx)⟩
    refine value_run (s := Instr.makeInterface t (a.eval x)) ?_
    unfold Instr.makeInterface
    rw [bind_run (underlying_pure hu)]
    cases d <;> first | rfl | exact absurd rfl (hd _)
   cases d <;> try exact main (by simp) h
   cases h
 case call c =>
  split at h
  ·rename_i u hl
   cases h
   exact aLen_sound hF rfl hl w
  ·exact hsc h
 case binOp op t x y ty =>
  split at h
  ·rename_i u z hx hy
   split at h
   ·rename_i r hr
    cases h
    obtain ⟨g1, g2, g3, g4⟩ := fbin_sound (P := P) (t := t) (x := x) (y := y) hr w
    have e1 := flat_eq g3 (hF.eval hx)
    have e2 := flat_eq g4 (hF.eval hy)
    refine ⟨_, ?_, closed_refl g2⟩
    unfold execOp
    dsimp only
    rw [e1, e2]
    exact g1
   split at h
   ·rename_i b hb
    cases h
    refine ⟨v, aEq_sound (hF.eval hx) (hF.eval hy) hb w, ?_⟩
    have : ∃ b, v = .bool b := by
     unfold aEq at hb
     have hE : ∀ b, eqRes b op = some v → ∃ b, v = .bool b := by
      intro b hh
      cases op <;> simp only [eqRes, reduceCtorEq, Option.some.injEq] at hh <;> exact ⟨_, hh.symm⟩
     split at hb <;> first | (split at hb <;> first | exact hE _ hb | cases hb) | cases hb
    obtain ⟨b, rfl⟩ := this
    exact .bool b
   ·exact hsc h
  ·cases h
 all_goals exact hsc h
end Go.Proofs.YtojlhapbngcjkaaGreatDoor

noncomputable section
namespace Go.Proofs.YtojlhapbngcjkaaGreatDoor
open Go Go.RowKit
set_option maxRecDepth 100000
set_option maxHeartbeats 8000000
structure Base where
 w : World
 mu : Nat → Prop
 f0 : Nat → Option Obj
 ds : List Deferred
def Base.old (W : Base) (c : Nat) : Prop := c < W.w.heap.size ∧ ¬ W.mu c
structure Still (W : Base) (w : World) : Prop where
 os : w.os = W.w.os
 tape : w.tape = W.w.tape
 output : w.output = W.w.output
 size : W.w.heap.size ≤ w.heap.size
 block : ∀ k, W.old k → w.heap[k]? = W.w.heap[k]?
theorem Still.fresh {W : Base} {w : World} (h : Still W w) : ¬ W.old w.heap.size := fun h' => by have := h.size; have := h'.1; omega
theorem Still.drew {W : Base} {w : World} (h : Still W w) : Still W { w with drawn := w.drawn + 1 } := ⟨h.os, h.tape, h.output, h.size, h.block⟩
def AObj.wr : AObj → Bool
 | .cells _ wr => wr
 | .iter _ _ => true
 | .map _ _ => true
 | .miter _ _ _ _ => true
def ORel (ρ : Place) (O : Nat → Prop) (c s z : Nat) : AObj → Obj → Prop
 | .cells l wr, .cells cs _ fr => cs.size = z ∧ s + l.length ≤ z ∧ (∀ o, o < z → ¬ (fr.1 ≤ o ∧ o < fr.2)) ∧ (∀ (i : Nat) (v : Value), l[i]? = some v → ∃ v', cs[s + i]? = some v' ∧ VR ρ v v') ∧ (wr = true → ¬ O c)
 | .iter st p, .stringIter st' p' => st' = st ∧ p' = p ∧ ¬ O c ∧ s = 0
 | .map es ck, .map es' ck' => ck' = ck ∧ ¬ O c ∧ s = 0 ∧ es'.size = es.length ∧ ∀ (i : Nat) (e : Value × Value × Nat), es[i]? = some e → ∃ e', es'[i]? = some e' ∧ e'.key = e.1 ∧ closed1 e.1 = true ∧ VR ρ e.2.1 e'.val ∧ e'.born = e.2.2
 | .miter m since last seen, .mapIter m' since' seen' last' => since' = since ∧ last' = last ∧ seen'.toList = seen ∧ ¬ O c ∧ s = 0 ∧ match m with | none => m' = none | some b => ∃ c2 s2 z2, ρ b = some (c2, s2, z2) ∧ m' = some c2
 | _, _ => False
theorem ORel.mono {ρ ρ' : Place} (h : ρ.le ρ') {O : Nat → Prop} {c s z : Nat} {o : AObj} {ob : Obj} (ho : ORel ρ O c s z o ob) : ORel ρ' O c s z o ob := by
 cases o with
 | cells l wr =>
  cases ob <;> try exact ho.elim
  obtain ⟨h1, h2, h3, h4, h5⟩ := ho
  exact ⟨h1, h2, h3, fun i v hv => let ⟨v', e, hr⟩ := h4 i v hv; ⟨v', e, hr.mono h⟩, h5⟩
 | iter st p =>
  cases ob <;> try exact ho.elim
  exact ho
 | map es ck =>
  cases ob <;> try exact ho.elim
  obtain ⟨h1, h2, h3, h4, h5⟩ := ho
  exact ⟨h1, h2, h3, h4, fun i e he => let ⟨e', a, b, c, d, f⟩ := h5 i e he; ⟨e', a, b, c, d.mono h, f⟩⟩
 | miter m since last seen =>
  cases ob <;> try exact ho.elim
  obtain ⟨h1, h2, h3, h4, h5, h6⟩ := ho
  refine ⟨h1, h2, h3, h4, h5, ?_⟩
  cases m with
  | none => exact h6
  | some b =>
   obtain ⟨c2, s2, z2, e1, e2⟩ := h6
   exact ⟨c2, s2, z2, h.1 _ _ e1, e2⟩
structure Rel (ρ : Place) (W : Base) (hp : Tr AObj) (nx : Nat) (w : World) : Prop where
 dom : ∀ b x, ρ b = some x → b < nx ∧ x.1 < w.heap.size
 obj : ∀ b o c s z, hp.get b = some o → ρ b = some (c, s, z) → ∃ ob, w.heap[c]? = some ob ∧ ORel ρ W.old c s z o ob
 inj : ∀ b b' x x' o o', hp.get b = some o → hp.get b' = some o' → ρ b = some x → ρ b' = some x' → x.1 = x'.1 → b = b'
 fresh : ∀ b, nx ≤ b → hp.get b = none
 below : Still W w
 frz : ∀ c ob, ρ.fr c = some ob → w.heap[c]? = some ob
 apart : ∀ b o c s z, hp.get b = some o → o.wr = true → ρ b = some (c, s, z) → ρ.fr c = none
 frn : ∀ c ob, ρ.fr c = some ob → W.f0 c = some ob ∨ ¬ W.old c
def Base.bare (W : Base) : Base := ⟨W.w, W.mu, W.f0, []⟩
theorem Rel.bare {ρ : Place} {W : Base} {hp : Tr AObj} {nx : Nat} {w : World} (h : Rel ρ W hp nx w) : Rel ρ W.bare hp nx w :=
 ⟨h.dom, h.obj, h.inj, h.fresh, ⟨h.below.os, h.below.tape, h.below.output, h.below.size, h.below.block⟩, h.frz, h.apart, h.frn⟩
theorem Rel.unbare {ρ : Place} {W : Base} {hp : Tr AObj} {nx : Nat} {w : World} (h : Rel ρ W.bare hp nx w) : Rel ρ W hp nx w :=
 ⟨h.dom, h.obj, h.inj, h.fresh, ⟨h.below.os, h.below.tape, h.below.output, h.below.size, h.below.block⟩, h.frz, h.apart, h.frn⟩
theorem Rel.drew {ρ : Place} {W : Base} {hp : Tr AObj} {nx : Nat} {w : World} (h : Rel ρ W hp nx w) : Rel ρ W hp nx { w with drawn := w.drawn + 1 } :=
 ⟨h.dom, h.obj, h.inj, h.fresh, h.below.drew, h.frz, h.apart, h.frn⟩
theorem Rel.reserve {ρ : Place} {W : Base} {hp : Tr AObj} {nx : Nat} {w : World} (h : Rel ρ W hp nx w) (o : AObj) : Rel ρ W (hp.put nx (some o)) (nx + 1) w := by
 have hn : ρ nx = none := by
  cases hc : ρ nx with
  | none => rfl
  | some x => have := (h.dom nx x hc).1; omega
 have get : ∀ b x, ρ b = some x → (hp.put nx (some o)).get b = hp.get b := fun b x hb => by
  rw [Tr.get_put, if_neg (by intro e; subst e; rw [hn] at hb; cases hb)]
 refine ⟨fun b x hb => ⟨Nat.lt_succ_of_lt (h.dom b x hb).1, (h.dom b x hb).2⟩, fun b o' c s z ho hb => ?_, fun b b' x x' o1 o2 h1 h2 hb hb' hx => ?_, fun b hb => ?_, h.below, h.frz, fun b o' c s z ho hw hb => by rw [get b _ hb] at ho; exact h.apart b o' c s z ho hw hb, h.frn⟩
 ·rw [get b _ hb] at ho
  exact h.obj b o' c s z ho hb
 ·rw [get b _ hb] at h1
  rw [get b' _ hb'] at h2
  exact h.inj b b' x x' o1 o2 h1 h2 hb hb' hx
 ·rw [Tr.get_put, if_neg (by omega)]
  exact h.fresh b (by omega)
def Place.set (ρ : Place) (b : Nat) (x : Nat × Nat × Nat) : Place := ⟨fun k => if k = b then some x else ρ k, ρ.fr, ρ.gl⟩
theorem Place.le_set {ρ : Place} {b : Nat} {x : Nat × Nat × Nat} (h : ρ b = none) : ρ.le (ρ.set b x) := ⟨fun k y hk => by
 unfold Place.set
 dsimp only
 rw [if_neg (by intro e; subst e; rw [h] at hk; cases hk)]
 exact hk, fun _ _ hc => hc⟩
theorem Place.set_same (ρ : Place) (b : Nat) (x : Nat × Nat × Nat) : (ρ.set b x) b = some x := by simp [Place.set]
theorem Place.set_other {ρ : Place} {b k : Nat} {x : Nat × Nat × Nat} (h : k ≠ b) : (ρ.set b x) k = ρ k := by simp [Place.set, h]
def pushed (w : World) (ob : Obj) : World := { w with heap := w.heap.push ob }
theorem pushed_lt (w : World) (ob : Obj) {c : Nat} (h : c < w.heap.size) : (pushed w ob).heap[c]? = w.heap[c]? := by
 show (w.heap.push ob)[c]? = _
 rw [Array.getElem?_push, if_neg (Nat.ne_of_lt h)]
theorem pushed_at (w : World) (ob : Obj) : (pushed w ob).heap[w.heap.size]? = some ob := by
 show (w.heap.push ob)[w.heap.size]? = _
 rw [Array.getElem?_push, if_pos rfl]
theorem below_pushed {W : Base} {w : World} (h : Still W w) (ob : Obj) : Still W (pushed w ob) :=
 ⟨h.os, h.tape, h.output, by have := h.size; show _ ≤ (w.heap.push ob).size; rw [Array.size_push]; omega, fun k hk => by rw [pushed_lt w ob (by have := h.size; have := hk.1; omega)]; exact h.block k hk⟩
theorem Rel.realize {ρ : Place} {W : Base} {hp : Tr AObj} {nx : Nat} {w : World} (h : Rel ρ W hp nx w) {b : Nat} {o : AObj} {ob : Obj} {z : Nat} (hb : b < nx) (hn : ρ b = none) (ho : hp.get b = some o)
  (hr : ORel ρ W.old w.heap.size 0 z o ob) : Rel (ρ.set b (w.heap.size, 0, z)) W hp nx (pushed w ob) := by
 have hle := Place.le_set (x := (w.heap.size, 0, z)) hn
 refine ⟨fun k x hk => ?_, fun k o' c s z' ho' hk => ?_, fun k k' x x' o1 o2 h1 h2 hk hk' hx => ?_, h.fresh, below_pushed h.below ob, fun c ob' hc => ?_, fun k o' c s z' ho' hw hk => ?_, h.frn⟩
 ·by_cases e : k = b
  ·subst e
   rw [Place.set_same] at hk
   cases hk
   exact ⟨hb, by show _ < (w.heap.push ob).size; rw [Array.size_push]; omega⟩
  ·rw [Place.set_other e] at hk
   have := h.dom k x hk
   exact ⟨this.1, by show _ < (w.heap.push ob).size; rw [Array.size_push]; omega⟩
 ·by_cases e : k = b
  ·subst e
   rw [Place.set_same] at hk
   cases hk
   rw [ho] at ho'
   cases ho'
   exact ⟨ob, pushed_at w ob, hr.mono hle⟩
  ·rw [Place.set_other e] at hk
   obtain ⟨ob', e1, e2⟩ := h.obj k o' c s z' ho' hk
   have := (h.dom k _ hk).2
   exact ⟨ob', by rw [pushed_lt w ob this]; exact e1, e2.mono hle⟩
 ·by_cases e : k = b
  ·by_cases e' : k' = b
   ·rw [e, e']
   ·subst e
    rw [Place.set_same] at hk
    rw [Place.set_other e'] at hk'
    cases hk
    have := (h.dom k' x' hk').2
    simp only at hx
    omega
  ·by_cases e' : k' = b
   ·subst e'
    rw [Place.set_same] at hk'
    rw [Place.set_other e] at hk
    cases hk'
    have := (h.dom k x hk).2
    simp only at hx
    omega
   ·rw [Place.set_other e] at hk
    rw [Place.set_other e'] at hk'
    exact h.inj k k' x x' o1 o2 h1 h2 hk hk' hx
 ·have := h.frz c ob' hc
  rw [pushed_lt w ob (by
   rcases Nat.lt_or_ge c w.heap.size with h' | h'
   ·exact h'
   ·simp [Array.getElem?_eq_none h'] at this)]
  exact this
 ·show ρ.fr c = none
  by_cases e : k = b
  ·subst e
   rw [Place.set_same] at hk
   cases hk
   cases hf : ρ.fr w.heap.size with
   | none => rfl
   | some x => have := h.frz _ _ hf; simp at this
  ·rw [Place.set_other e] at hk
   exact h.apart k o' c s z' ho' hw hk
def single : Value → Bool
 | .agg _ | .tuple _ => false
 | _ => true
theorem Rel.cell {ρ : Place} {W : Base} {hp : Tr AObj} {nx : Nat} {w : World} (h : Rel ρ W hp nx w) {b c s z : Nat} {l : List Value} {wr : Bool} (hb : hp.get b = some (.cells l wr)) (hr : ρ b = some (c, s, z))
  {i : Nat} {v : Value} (hv : l[i]? = some v) : ∃ v', w.cell? ⟨c, s + i, none⟩ = some v' ∧ VR ρ v v' := by
 obtain ⟨ob, e, ho⟩ := h.obj b _ c s z hb hr
 cases ob <;> try exact ho.elim
 obtain ⟨h1, h2, h3, h4, h5⟩ := ho
 obtain ⟨v', e', hv'⟩ := h4 i v hv
 exact ⟨v', by simp [World.cell?, e, e'], hv'⟩
theorem store_run {P : Program} {w : World} {p : Addr} {v : Value} {cs : Array Value} {t : TypeId} {fr : Nat × Nat} (hc : w.heap[p.block]? = some (.cells cs t fr)) (hp : p.spot = none) (ho : p.off < cs.size)
  (hf : ¬ (fr.1 ≤ p.off ∧ p.off < fr.2)) (hs : single v = true) : (store p v).run P w = .ok () (w.setCell p v) := by
 have h1 : w.cell? p = some cs[p.off] := by simp [World.cell?, hc, hp, ho]
 have h2 : w.frozen? p = false := by
  simp only [World.frozen?, hc]
  simp only [Bool.and_eq_false_iff, decide_eq_false_iff_not]
  by_cases h : fr.1 ≤ p.off
  ·exact .inr fun h' => hf ⟨h, h'⟩
  ·exact .inl h
 unfold store
 have hn : ∀ c, v ≠ .agg c := fun c e => by subst e; exact absurd hs Bool.false_ne_true
 have hm : ∀ c, v ≠ .tuple c := fun c e => by subst e; exact absurd hs Bool.false_ne_true
 cases v <;> first | exact absurd rfl (hn _) | exact absurd rfl (hm _) | (simp only [Sem.run, h1, h2]; rfl)
theorem setCell_heap (w : World) {c : Nat} (o : Nat) (v : Value) {cs : Array Value} {t : TypeId} {fr : Nat × Nat} (hc : w.heap[c]? = some (.cells cs t fr)) (k : Nat) :
  (w.setCell ⟨c, o, none⟩ v).heap[k]? = if k = c then some (.cells (cs.setIfInBounds o v) t fr) else w.heap[k]? := by
 simp only [World.setCell, Array.getElem?_modify]
 by_cases h : c = k
 ·subst h; simp [hc]
 ·simp [h, Ne.symm h]
theorem below_setCell {W : Base} {w : World} (h : Still W w) {p : Addr} (hp : ¬ W.old p.block) (v : Value) : Still W (w.setCell p v) :=
 ⟨h.os, h.tape, h.output, by have := h.size; simp [World.setCell]; omega, fun k hk => by
  rw [← h.block k hk]
  simp only [World.setCell, Array.getElem?_modify]
  rw [if_neg (fun e => hp (by rw [e]; exact hk))]⟩
theorem Rel.write {ρ : Place} {W : Base} {hp : Tr AObj} {nx : Nat} {w : World} (h : Rel ρ W hp nx w) {b c s z : Nat} {l : List Value} (hb : hp.get b = some (.cells l true)) (hr : ρ b = some (c, s, z))
  {i : Nat} (hi : i < l.length) {v v' : Value} (hv : VR ρ v v') (hs : single v' = true) (P : Program) :
  (store ⟨c, s + i, none⟩ v').run P w = .ok () (w.setCell ⟨c, s + i, none⟩ v') ∧ Rel ρ W (hp.put b (some (.cells (l.set i v) true))) nx (w.setCell ⟨c, s + i, none⟩ v') := by
 obtain ⟨ob, e, ho⟩ := h.obj b _ c s z hb hr
 cases ob <;> try exact ho.elim
 rename_i cs t fr
 obtain ⟨h1, h2, h3, h4, h5⟩ := ho
 have hbn : b < nx := (h.dom b _ hr).1
 refine ⟨store_run e rfl (by show s + i < cs.size; omega) (h3 (s + i) (by omega)) hs, ⟨fun k x hk => ⟨(h.dom k x hk).1, by simpa [World.setCell] using (h.dom k x hk).2⟩, fun k o' c' s' z' ho' hk => ?_, fun k k' x x' o1 o2 g1 g2 hk hk' hx => ?_, fun k hk => ?_, below_setCell h.below (h5 rfl) v', fun c0 ob0 hc0 => ?_, fun k o' c' s' z' ho' hw hk => ?_, h.frn⟩⟩
 ·rw [Tr.get_put] at ho'
  by_cases ek : k = b
  ·rw [if_pos ek] at ho'
   cases ho'
   rw [ek, hr] at hk
   cases hk
   refine ⟨.cells (cs.setIfInBounds (s + i) v') t fr, by rw [setCell_heap w _ _ e, if_pos rfl], by simp [h1], by simpa using h2, h3, fun j u hu => ?_, h5⟩
   rw [List.getElem?_set] at hu
   by_cases hji : i = j
   ·rw [if_pos hji] at hu
    split at hu
    ·cases hu
     refine ⟨v', ?_, hv⟩
     rw [← hji, Array.getElem?_setIfInBounds, if_pos rfl, if_pos (by omega)]
    ·exact absurd hi (by assumption)
   ·rw [if_neg hji] at hu
    obtain ⟨u', e1, e2⟩ := h4 j u hu
    exact ⟨u', by rw [Array.getElem?_setIfInBounds_ne (by omega)]; exact e1, e2⟩
  ·rw [if_neg ek] at ho'
   obtain ⟨ob', e1, e2⟩ := h.obj k o' c' s' z' ho' hk
   refine ⟨ob', ?_, e2⟩
   rw [setCell_heap w _ _ e, if_neg]
   ·exact e1
   ·intro ec
    exact ek (h.inj k b _ _ _ _ ho' hb hk hr ec)
 ·have live : ∀ k o, (hp.put b (some (.cells (l.set i v) true))).get k = some o → ∃ o', hp.get k = some o' := fun k o hk => by
   rw [Tr.get_put] at hk
   by_cases ek : k = b
   ·exact ⟨_, ek ▸ hb⟩
   ·rw [if_neg ek] at hk; exact ⟨_, hk⟩
  obtain ⟨_, g1'⟩ := live k o1 g1
  obtain ⟨_, g2'⟩ := live k' o2 g2
  exact h.inj k k' x x' _ _ g1' g2' hk hk' hx
 ·rw [Tr.get_put, if_neg (by omega)]
  exact h.fresh k hk
 ·rw [setCell_heap w _ _ e, if_neg]
  ·exact h.frz c0 ob0 hc0
  ·intro ec
   have := h.apart b _ c s z hb rfl hr
   rw [ec, this] at hc0
   cases hc0
 ·rw [Tr.get_put] at ho'
  by_cases ek : k = b
  ·rw [ek, hr] at hk
   cases hk
   exact h.apart b _ c s z hb rfl hr
  ·rw [if_neg ek] at ho'
   exact h.apart k o' c' s' z' ho' hw hk
theorem loadFrom_run {P : Program} {w : World} {a : Addr} : ∀ (vs : List Value) (k : Nat) (acc : Array Value), (∀ (i : Nat) (v : Value), vs[i]? = some v → w.cell? (a.add (k + i)) = some v) →
  (loadCellsFrom a k vs.length acc).run P w = .ok (acc ++ vs.toArray) w
 | [], k, acc, _ => by simp [loadCellsFrom]
 | v :: vs, k, acc, h => by
  have h0 : w.cell? (a.add k) = some v := by simpa using h 0 v rfl
  simp only [List.length_cons, loadCellsFrom]
  have hl : (load (a.add k)).run P w = .ok v w := by rw [run_load, h0]
  rw [Sem.run_bind, hl, Result.andThen_ok, loadFrom_run vs (k + 1) (acc.push v) fun i u hu => by
   have := h (i + 1) u (by simpa using hu)
   rw [show k + 1 + i = k + (i + 1) by omega]
   exact this]
  simp
def rowOf (hp : Tr AObj) (b o n : Nat) : Option (List Value) :=
 match hp.get b with
 | some (.cells l _) => bif (o + n).ble l.length then some ((l.drop o).take n) else none
 | _ => none
theorem rowOf_sound {P : Program} {ρ : Place} {W : Base} {hp : Tr AObj} {nx : Nat} {w : World} (h : Rel ρ W hp nx w) {b o n c s z : Nat} {l : List Value} (hl : rowOf hp b o n = some l) (hr : ρ b = some (c, s, z)) :
  ∃ l', VRL ρ l l' ∧ l.length = n ∧ (loadCells ⟨c, s + o, none⟩ n).run P w = .ok l'.toArray w := by
 unfold rowOf at hl
 cases hb : hp.get b with
 | none => rw [hb] at hl; cases hl
 | some ob =>
  rw [hb] at hl
  cases ob <;> try (cases hl)
  rename_i cs wr
  dsimp only at hl
  cases hc : (o + n).ble cs.length with
  | false => rw [hc] at hl; cases hl
  | true =>
   rw [hc, cond_true] at hl
   cases hl
   have hle := Nat.le_of_ble_eq_true hc
   have ex : ∀ i : Nat, i < n → ∃ v', w.cell? ⟨c, s + (o + i), none⟩ = some v' ∧ ∀ v, cs[o + i]? = some v → VR ρ v v' := by
    intro i hi
    have hlt : o + i < cs.length := by omega
    obtain ⟨v', e, hv⟩ := h.cell hb hr (i := o + i) (v := cs[o + i]) (by simp)
    exact ⟨v', e, fun v hv' => by simp [hlt] at hv'; rw [← hv']; exact hv⟩
   let f : Nat → Value := fun i => if hi : i < n then (ex i hi).choose else undef
   have hf : ∀ i, i < n → w.cell? ⟨c, s + (o + i), none⟩ = some (f i) ∧ ∀ v, cs[o + i]? = some v → VR ρ v (f i) := fun i hi => by
    simp only [f, hi, dif_pos]
    exact (ex i hi).choose_spec
   refine ⟨(List.range n).map f, .of (by simp; omega) (fun i v v' hv hv' => ?_), by simp; omega, ?_⟩
   ·simp only [List.getElem?_map, Option.map_eq_some_iff] at hv'
    obtain ⟨k, hk, rfl⟩ := hv'
    rw [List.getElem?_range] at hk
    ·cases hk
     have hi : i < n := by
      rcases Nat.lt_or_ge i n with h' | h'
      ·exact h'
      ·rw [List.getElem?_take, if_neg (by omega)] at hv; cases hv
     rw [List.getElem?_take, if_pos hi, List.getElem?_drop] at hv
     exact (hf i hi).2 v hv
    ·rcases Nat.lt_or_ge i n with h' | h'
     ·exact h'
     ·rw [List.getElem?_take, if_neg (by omega)] at hv; cases hv
   ·have := loadFrom_run (P := P) (w := w) (a := ⟨c, s + o, none⟩) ((List.range n).map f) 0 #[] (fun i v hv => by
     simp only [List.getElem?_map, Option.map_eq_some_iff] at hv
     obtain ⟨k, hk, rfl⟩ := hv
     have hi : i < n := by
      rcases Nat.lt_or_ge i n with h' | h'
      ·exact h'
      ·rw [List.getElem?_eq_none (by simp; omega)] at hk; cases hk
     rw [List.getElem?_range hi] at hk
     cases hk
     rw [Nat.zero_add, add_eq]
     exact (hf i hi).1)
    unfold loadCells
    simpa using this
def aLoad (P : Program) (hp : Tr AObj) (t : TypeId) (x : Value) : Option Value :=
 match x with
 | .pointer (some ⟨b, o, none⟩) => match pureRun P (isAgg t) with
  | some true => match pureRun P (sizeOf t) with
   | some z => match rowOf hp b o z with
    | some l => some (.agg l.toArray)
    | none => none
   | none => none
  | some false => match hp.get b with
   | some (.cells l _) => l[o]?
   | _ => none
  | none => none
 | _ => none
theorem aLoad_sound {P : Program} {ρ : Place} {W : Base} {hp : Tr AObj} {nx : Nat} {w : World} (h : Rel ρ W hp nx w) {t : TypeId} {x x' v : Value} (hx : VR ρ x x') (hv : aLoad P hp t x = some v) :
  ∃ v', (Instr.loadAt t x').run P w = .ok v' w ∧ VR ρ v v' := by
 unfold aLoad at hv
 cases hx <;> try simp only [reduceCtorEq] at hv
 case ptr b o c s z hr =>
  unfold Instr.loadAt
  show ∃ v', (loadVar t ⟨c, s + o, none⟩).run P w = _ ∧ _
  unfold loadVar
  cases hi : pureRun P (isAgg t) with
  | none => rw [hi] at hv; cases hv
  | some q =>
   rw [hi] at hv
   rw [bind_run hi]
   cases q with
   | true =>
    dsimp only at hv
    cases hz : pureRun P (sizeOf t) with
    | none => rw [hz] at hv; cases hv
    | some m =>
     rw [hz] at hv
     dsimp only at hv
     cases hl : rowOf hp b o m with
     | none => rw [hl] at hv; cases hv
     | some l =>
      rw [hl] at hv
      cases hv
      obtain ⟨l', h1, h2, h3⟩ := rowOf_sound (P := P) h hl hr
      rw [if_pos rfl, bind_run hz, Sem.run_bind, h3]
      exact ⟨_, rfl, .agg h1.arr.1 h1.arr.2⟩
   | false =>
    dsimp only at hv
    cases hb : hp.get b with
    | none => rw [hb] at hv; cases hv
    | some ob =>
     rw [hb] at hv
     cases ob <;> try (cases hv)
     rename_i l wr
     obtain ⟨v', e, hv'⟩ := h.cell hb hr hv
     rw [if_neg (by simp), run_load, e]
     exact ⟨v', rfl, hv'⟩
def bytesTail (cells : Array Value) : Sem Value := do
 let mut s := ByteArray.empty
 for c in cells do
  let .int .u8 n := c | stuck "bytesToString: byte expected"
  s := s.push (UInt8.ofNat n.toNat)
 pure (.string s)
theorem bytesToString_eq (a : Addr) (n c : Nat) : Conv.bytesToString (.slice (some a) n c) = loadCells a n >>= bytesTail := rfl
def aBytes (P : Program) (hp : Tr AObj) (src dst : TypeId) (x : Value) : Option Value :=
 match x with
 | .slice (some ⟨b, o, none⟩) n _ => match P.underlying src, P.underlying dst with
  | some (.slice e), some .string => match P.underlying e with
   | some (.int .u8) => match rowOf hp b o n with
    | some l => bif flats l.toArray then
      match pureRun P (bytesTail l.toArray) with
      | some (.string s) => some (.string s)
      | _ => none
     else none
    | none => none
   | _ => none
  | _, _ => none
 | _ => none
theorem aBytes_sound {P : Program} {ρ : Place} {W : Base} {hp : Tr AObj} {nx : Nat} {w : World} (h : Rel ρ W hp nx w) {src dst : TypeId} {x x' v : Value} (hx : VR ρ x x') (hv : aBytes P hp src dst x = some v) :
  ∃ v', (convert src dst x').run P w = .ok v' w ∧ VR ρ v v' := by
 unfold aBytes at hv
 have go : ∀ (b o n : Nat) (A : Addr) (cap : Nat), (∀ l, rowOf hp b o n = some l → ∃ l', VRL ρ l l' ∧ (loadCells A n).run P w = .ok l'.toArray w) →
   (match P.underlying src, P.underlying dst with
    | some (.slice e), some .string => match P.underlying e with
     | some (.int .u8) => match rowOf hp b o n with
      | some l => bif flats l.toArray then
        match pureRun P (bytesTail l.toArray) with
        | some (.string s) => some (.string s)
        | _ => none
       else none
      | none => none
     | _ => none
    | _, _ => none) = some v → ∃ v', (convert src dst (.slice (some A) n cap)).run P w = .ok v' w ∧ VR ρ v v' := by
  intro b o n A cap hL hh
  split at hh
  ·rename_i e hs hd
   split at hh
   ·rename_i he
    cases hl : rowOf hp b o n with
    | none => rw [hl] at hh; cases hh
    | some l =>
     rw [hl] at hh
     dsimp only at hh
     cases hf : flats l.toArray with
     | false => rw [hf] at hh; cases hh
     | true =>
      rw [hf, cond_true] at hh
      obtain ⟨l', h1, h2⟩ := hL l hl
      have hll : l'.toArray = l.toArray := arr_eq (fun _ _ => flat_eq) hf h1.arr.1 h1.arr.2
      split at hh
      ·rename_i s hp'
       cases hh
       refine ⟨.string s, ?_, .string s⟩
       unfold convert
       rw [bind_run (underlying_pure hs), bind_run (underlying_pure hd)]
       dsimp only
       rw [bind_run (underlying_pure he)]
       dsimp only
       rw [bytesToString_eq, Sem.run_bind, h2, hll]
       exact pureRun_run hp' w
      ·cases hh
   ·cases hh
  ·cases hh
 cases hx <;> try simp only [reduceCtorEq] at hv
 case slice b o n sz c s z cap hr h1 h2 =>
  refine go b o n ⟨c, s + o, none⟩ cap (fun l hl => ?_) hv
  obtain ⟨l', h1, _, h3⟩ := rowOf_sound (P := P) h hl hr
  exact ⟨l', h1, h3⟩
 case emptySlice b o y a' sz hr =>
  refine go b o 0 a' 0 (fun l hl => ⟨[], ?_, rfl⟩) hv
  unfold rowOf at hl
  split at hl
  ·rename_i l0 wr hb
   cases hc : (o + 0).ble l0.length with
   | false => rw [hc] at hl; cases hl
   | true => rw [hc, cond_true] at hl; cases hl; simp; exact .nil
  ·cases hl
def aread (P : Program) (hp : Tr AObj) (o : Oper) (ev : Operand → Option Value) : Option Value :=
 match o.op with
 | .load t x => match ev x with
  | some v => aLoad P hp t v
  | none => none
 | .convert src dst x => match ev x with
  | some v => aBytes P hp src dst v
  | none => none
 | _ => none
theorem aread_sound {P : Program} {ρ : Place} {W : Base} {hp : Tr AObj} {nx : Nat} {w : World} (h : Rel ρ W hp nx w) {ev : Operand → Option Value} {a : Act} (hF : ERel ρ ev a) {o : Oper} {v : Value} (hv : aread P hp o ev = some v) :
  ∃ v', (execOp a.eval o).run P w = .ok (.value v') w ∧ VR ρ v v' := by
 obtain ⟨dst, op, type, pos, after, guard⟩ := o
 unfold aread at hv
 cases op <;> dsimp only at hv <;> try (cases hv)
 case load t x =>
  cases hx : ev x with
  | none => rw [hx] at hv; cases hv
  | some u =>
   rw [hx] at hv
   obtain ⟨v', e, hr⟩ := aLoad_sound h (hF.eval hx) hv
   exact ⟨v', value_run e, hr⟩
 case convert src dst' x =>
  cases hx : ev x with
  | none => rw [hx] at hv; cases hv
  | some u =>
   rw [hx] at hv
   obtain ⟨v', e, hr⟩ := aBytes_sound h (hF.eval hx) hv
   exact ⟨v', value_run e, hr⟩
inductive NewV where
 | ptr
 | slice (n sz : Nat)
 | map
def NewV.val (b : Nat) : NewV → Value
 | .ptr => .pointer (some ⟨b, 0, none⟩)
 | .slice n sz => .slice (some ⟨b, 0, none⟩) n sz
 | .map => .map (some b)
def Makes (P : Program) (ρ : Place) (s : Sem Value) (ob : AObj) (nv : NewV) (w : World) : Prop :=
 ∃ v' ob' d z, s.run P w = .ok v' (pushed { w with drawn := d } ob') ∧ (∀ O : Nat → Prop, ¬ O w.heap.size → ORel ρ O w.heap.size 0 z ob ob') ∧ (∀ ρ' b, ρ' b = some (w.heap.size, 0, z) → VR ρ' (nv.val b) v')
theorem orel_row {ρ : Place} {l : List Value} {cs cs' : Array Value} (h : VRA ρ cs cs') (hl : l = cs.toList) (O : Nat → Prop) (k : Nat) (hB : ¬ O k) (t : TypeId) : ORel ρ O k 0 cs'.size (.cells l true) (.cells cs' t) := by
 subst hl
 refine ⟨rfl, by simp [h.1], fun o _ => by simp, fun i v hv => ?_, fun _ => hB⟩
 obtain ⟨v', e, hr⟩ := h.get (i := i) (v := v) (by simpa using hv)
 exact ⟨v', by simpa using e, hr⟩
theorem makes_row {P : Program} {ρ : Place} {w : World} {t : TypeId} {cs cs' : Array Value} (h : VRA ρ cs cs') {f : Addr → Value} {nv : NewV} {s : Sem Value} (hs : s.run P w = ((newRow t cs') >>= fun a => pure (f a)).run P w)
  (hv : ∀ ρ' b, ρ' b = some (w.heap.size, 0, cs'.size) → VR ρ' (nv.val b) (f ⟨w.heap.size, 0, none⟩)) : Makes P ρ s (.cells cs.toList true) nv w :=
 ⟨_, .cells cs' t, w.drawn, cs'.size, hs.trans rfl, fun B hB => orel_row h rfl B _ hB t, hv⟩
def aAlloc (P : Program) (t : TypeId) : Option AObj :=
 match pureRun P (zeroValue t) with
 | some z => bif flats z.cells then some (.cells z.cells.toList true) else none
 | none => none
theorem aAlloc_sound {P : Program} {ρ : Place} {t : TypeId} {ob : AObj} (h : aAlloc P t = some ob) (w : World) : Makes P ρ (Instr.alloc t true (.tuple #[])) ob .ptr w := by
 unfold aAlloc at h
 cases hz : pureRun P (zeroValue t) with
 | none => rw [hz] at h; cases h
 | some z =>
  rw [hz] at h
  dsimp only at h
  cases hf : flats z.cells with
  | false => rw [hf] at h; cases h
  | true =>
   rw [hf] at h
   cases h
   refine makes_row (t := t) (f := fun a => .pointer (some a)) (flats_refl hf) ?_ fun ρ' b hb => ?_
   ·unfold Instr.alloc
    rw [bind_run hz]
    rfl
   ·have := VR.ptr (ρ := ρ') (o := 0) hb
    exact this
theorem aBox_sound {P : Program} {ρ : Place} {t : TypeId} {v v' : Value} (hv : VR ρ v v') (w : World) : Makes P ρ (Instr.box t v') (.cells v.cells.toList true) .ptr w :=
 makes_row (t := t) (f := fun a => .pointer (some a)) hv.cells rfl fun ρ' _ hb => VR.ptr (ρ := ρ') (o := 0) hb
def aBuildSlice (P : Program) (t : TypeId) (len : Nat) (ps : List (Nat × Value)) : Option (AObj × NewV) :=
 match P.underlying t with
 | some (.slice elem) => match pureRun P (sizeOf elem) with
  | some size => bif (len * size).ble (2 ^ 24) then
    match (if len * size = 0 then some #[] else (pureRun P (zeroValue elem)).map Value.cells) with
    | some zero =>
     let base := (Array.range (len * size)).map (zero[· % zero.size]!)
     bif flats base then
      match Instr.fill (fun i => some (i * size, size)) base ps with
      | some cells => bif cells.size.beq (len * size) then some (.cells cells.toList true, .slice len size) else none
      | none => none
     else none
    | none => none
   else none
  | none => none
 | _ => none
theorem aBuildSlice_sound {P : Program} {ρ : Place} {t : TypeId} {len : Nat} {ps ps' : List (Nat × Value)} {ob : AObj} {nv : NewV} (hp : Parts ρ ps ps') (h : aBuildSlice P t len ps = some (ob, nv)) (w : World) :
  Makes P ρ (Instr.buildSlice t len ps'.toArray) ob nv w := by
 unfold aBuildSlice at h
 split at h
 case h_2 => cases h
 rename_i elem hu
 cases hz : pureRun P (sizeOf elem) with
 | none => rw [hz] at h; cases h
 | some size =>
  rw [hz] at h
  dsimp only at h
  cases hle : (len * size).ble (2 ^ 24) with
  | false => rw [hle] at h; cases h
  | true =>
   rw [hle, cond_true] at h
   have hle' := Nat.le_of_ble_eq_true hle
   split at h
   case h_2 => cases h
   rename_i zero hzero
   cases hf : flats ((Array.range (len * size)).map (zero[· % zero.size]!)) with
   | false => rw [hf] at h; cases h
   | true =>
    rw [hf, cond_true] at h
    split at h
    case h_2 => cases h
    rename_i cells hfill
    cases hsz : cells.size.beq (len * size) with
    | false => rw [hsz] at h; cases h
    | true =>
     rw [hsz, cond_true] at h
     cases h
     have hsz' := Nat.eq_of_beq_eq_true hsz
     obtain ⟨cells', e, hv⟩ := fill_rel _ hp (flats_refl (ρ := ρ) hf) hfill
     refine makes_row (t := elem) (f := fun a => .slice (some a) len len) hv ?_ fun ρ' b hb => ?_
     ·unfold Instr.buildSlice
      rw [bind_run (underlying_pure hu)]
      dsimp only
      rw [bind_run hz]
      rw [if_neg (by omega)]
      have hzr : pureRun P (if len * size = 0 then (pure #[] : Sem (Array Value)) else do pure (← zeroValue elem).cells) = some zero := by
       by_cases h0 : len * size = 0
       ·rw [if_pos h0] at hzero ⊢; cases hzero; rfl
       ·rw [if_neg h0] at hzero ⊢
        simp only [Option.map_eq_some_iff] at hzero
        obtain ⟨zv, h1, h2⟩ := hzero
        rw [pureRun_bind h1, ← h2]
        rfl
      have hj : ∀ (k : Array Value → Sem Value), (if len * size = 0 then (pure #[] : Sem (Array Value)) >>= k else zeroValue elem >>= fun z => pure z.cells >>= k).run P w = (k zero).run P w := by
       intro k
       rw [← bind_run hzr k w]
       by_cases h0 : len * size = 0
       ·rw [if_pos h0, if_pos h0]
       ·rw [if_neg h0, if_neg h0]
        simp only [bind_assoc]
      refine (hj _).trans ?_
      have e' : Instr.fill (fun i => some (i * size, size)) ((Array.range (len * size)).map (zero[· % zero.size]!)) ps'.toArray.toList = some cells' := e
      rw [e']
     ·have h2 := VR.slice (ρ := ρ') (o := 0) (n := len) (sz := size) (cap := len) hb (Nat.le_refl _) (by rw [← hv.1]; omega)
      exact h2
def aMakeSlice (P : Program) (t : TypeId) (x y : Value) : Option (AObj × NewV) :=
 match x, y, P.underlying t with
 | .int _ len, .int _ cap, some (.slice elem) => match pureRun P (typeInfo elem), pureRun P (sizeOf elem) with
  | some info, some size =>
   let l := IntKind.i64.wrap len
   let c := IntKind.i64.wrap cap
   bif (c < 0 || info.bytes * c > 2 ^ 48) || l < 0 || l > c then none else
   match (if c.toNat * size = 0 then some #[] else (pureRun P (zeroValue elem)).map Value.cells) with
   | some zero =>
    let cells := (Array.range (c.toNat * size)).map (zero[· % zero.size]!)
    bif flats cells then some (.cells cells.toList true, .slice l.toNat size) else none
   | none => none
  | _, _ => none
 | _, _, _ => none
theorem aMakeSlice_sound {P : Program} {ρ : Place} {t : TypeId} {x x' y y' : Value} {ob : AObj} {nv : NewV} (hx : VR ρ x x') (hy : VR ρ y y') (h : aMakeSlice P t x y = some (ob, nv)) (w : World) :
  Makes P ρ (Instr.makeSlice t x' y') ob nv w := by
 unfold aMakeSlice at h
 split at h
 case h_2 => cases h
 rename_i k1 len k2 cap elem hu
 cases hx
 cases hy
 split at h
 case h_2 => cases h
 rename_i info size hi hz
 dsimp only at h
 cases hc : ((decide (IntKind.i64.wrap cap < 0) || decide ((info.bytes : Int) * IntKind.i64.wrap cap > 2 ^ 48)) || decide (IntKind.i64.wrap len < 0) || decide (IntKind.i64.wrap len > IntKind.i64.wrap cap)) with
 | true => rw [hc] at h; cases h
 | false =>
  rw [hc, cond_false] at h
  split at h
  case h_2 => cases h
  rename_i zero hzero
  cases hf : flats ((Array.range ((IntKind.i64.wrap cap).toNat * size)).map (zero[· % zero.size]!)) with
  | false => rw [hf] at h; cases h
  | true =>
   rw [hf, cond_true] at h
   cases h
   refine makes_row (t := elem) (f := fun a => .slice (some a) (IntKind.i64.wrap len).toNat (IntKind.i64.wrap cap).toNat) (flats_refl hf) ?_ fun ρ' b hb => ?_
   ·unfold Instr.makeSlice
    rw [bind_run (underlying_pure hu)]
    dsimp only
    show ((typeInfo elem) >>= _).run P w = _
    rw [bind_run hi]
    dsimp only
    rw [if_neg (by rw [hc]; simp)]
    have hr : pureRun P (askRoom ((IntKind.i64.wrap cap).toNat * info.bytes)) = some () := by unfold askRoom; split <;> rfl
    rw [bind_run hr]
    rw [bind_run hz]
    have hzr : pureRun P (if (IntKind.i64.wrap cap).toNat * size = 0 then (pure #[] : Sem (Array Value)) else do pure (← zeroValue elem).cells) = some zero := by
     by_cases h0 : (IntKind.i64.wrap cap).toNat * size = 0
     ·rw [if_pos h0] at hzero ⊢; cases hzero; rfl
     ·rw [if_neg h0] at hzero ⊢
      simp only [Option.map_eq_some_iff] at hzero
      obtain ⟨zv, h1, h2⟩ := hzero
      rw [pureRun_bind h1, ← h2]
      rfl
    have hj : ∀ (k : Array Value → Sem Value), (if (IntKind.i64.wrap cap).toNat * size = 0 then (pure #[] : Sem (Array Value)) >>= k else zeroValue elem >>= fun z => pure z.cells >>= k).run P w = (k zero).run P w := by
     intro k
     rw [← bind_run hzr k w]
     by_cases h0 : (IntKind.i64.wrap cap).toNat * size = 0
     ·rw [if_pos h0, if_pos h0]
     ·rw [if_neg h0, if_neg h0]
      simp only [bind_assoc]
    exact hj _
   ·have : (IntKind.i64.wrap len).toNat ≤ (IntKind.i64.wrap cap).toNat := by
     simp at hc
     omega
    have h2 := VR.slice (ρ := ρ') (o := 0) (n := (IntKind.i64.wrap len).toNat) (sz := size) (cap := (IntKind.i64.wrap cap).toNat) hb this (by simp)
    exact h2
def byteCells (s : ByteArray) : Array Value := s.data.map fun b => .int .u8 b.toNat
theorem byteCells_flat (s : ByteArray) : flats (byteCells s) = true := by
 unfold flats byteCells
 rw [Array.all_eq_true_iff_forall_mem]
 intro x hx
 obtain ⟨b, _, rfl⟩ := Array.mem_map.1 hx
 rfl
theorem modify_push (h : Array Obj) (o : Obj) (f : Obj → Obj) : (h.push o).modify h.size f = h.push (f o) := by
 apply Array.ext (by simp)
 intro i h1 h2
 rw [Array.getElem_modify]
 by_cases hi : h.size = i
 ·subst hi; simp
 ·simp only [hi, if_false]
  rw [Array.getElem_push, Array.getElem_push]
  have : i < h.size := by simp at h2; omega
  simp [this]
theorem makes_bytes {P : Program} {ρ : Place} (e : TypeId) (s : ByteArray) (w : World) : Makes P ρ (Conv.stringToBytes e s) (.cells (byteCells s).toList true) (.slice s.size 1) w := by
 let cap := (Question.appendCap s.size 0 e).cut (w.tape w.drawn (.appendCap s.size 0 e))
 have hcap : s.size ≤ cap := Nat.le_add_right _ _
 have hsz : (byteCells s ++ Array.replicate (cap - s.size) (Value.int .u8 0)).size = cap := by
  simp [byteCells]
  have : s.data.size = s.size := rfl
  omega
 let cs := byteCells s ++ Array.replicate (cap - s.size) (Value.int .u8 0)
 refine ⟨.slice (some ⟨w.heap.size, 0, none⟩) s.size cap, .cells cs e (cap, cap + 1), w.drawn + 1, cap, ?_, fun B hB => ?_, fun ρ' b hb => ?_⟩
 ·unfold Conv.stringToBytes
  have hch : (choose (.appendCap s.size 0 e)).run P w = .ok cap { w with drawn := w.drawn + 1 } := by
   simp [choose, Sem.run, Question.forced, cap]
  rw [Sem.run_bind, hch, Result.andThen_ok]
  let w1 : World := { w with drawn := w.drawn + 1 }
  have hn : (newRow e cs).run P w1 = .ok ⟨w.heap.size, 0, none⟩ (pushed w1 (.cells cs e)) := rfl
  have hsh : (pushed w1 (.cells cs e)).shape? w.heap.size = some (e, cap) := by
   unfold World.shape?
   rw [pushed_at w1 (.cells cs e)]
   simp only [cs, hsz]
  have hm : (markStringish ⟨w.heap.size, 0, none⟩).run P (pushed w1 (.cells cs e)) = .ok () (pushed w1 (.cells cs e (cap, cap + 1))) := by
   unfold markStringish
   rw [Sem.run_bind]
   show (Result.andThen (.ok ((pushed w1 (.cells cs e)).shape? w.heap.size) (pushed w1 (.cells cs e))) _) = _
   rw [hsh, Result.andThen_ok]
   show Result.ok () ((pushed w1 (.cells cs e)).freeze ⟨w.heap.size, cap, none⟩ 1) = _
   congr 1
   unfold World.freeze pushed
   simp only [Nat.one_ne_zero, if_false]
   congr 1
   exact modify_push w.heap _ _
  show (newRow e cs >>= fun a => markStringish a >>= fun _ => (pure (Value.slice (some a) s.size cap) : Sem Value)).run P w1 = _
  rw [Sem.run_bind, hn, Result.andThen_ok, Sem.run_bind, hm, Result.andThen_ok]
  rfl
 ·refine ⟨hsz, by simp [byteCells]; have : s.data.size = s.size := rfl; omega, fun o ho => by simp; omega, fun i v hv => ?_, fun _ => hB⟩
  have hv' : (byteCells s)[i]? = some v := by simpa using hv
  have hi : i < (byteCells s).size := by
   rcases Nat.lt_or_ge i (byteCells s).size with h' | h'
   ·exact h'
   ·simp [Array.getElem?_eq_none h'] at hv'
  refine ⟨v, ?_, flat_refl (all_get (byteCells_flat s) hv')⟩
  rw [Nat.zero_add, Array.getElem?_append_left hi]
  exact hv'
 ·have h2 := VR.slice (ρ := ρ') (o := 0) (n := s.size) (sz := 1) (cap := cap) hb hcap (by omega)
  exact h2
def aToBytes (P : Program) (src dst : TypeId) (x : Value) : Option (AObj × NewV) :=
 match x with
 | .string s => match P.underlying src, P.underlying dst with
  | some _, some (.slice e) => match P.underlying e with
   | some (.int .u8) => some (.cells (byteCells s).toList true, .slice s.size 1)
   | _ => none
  | _, _ => none
 | _ => none
theorem aToBytes_sound {P : Program} {ρ : Place} {src dst : TypeId} {x x' : Value} {ob : AObj} {nv : NewV} (hx : VR ρ x x') (h : aToBytes P src dst x = some (ob, nv)) (w : World) : Makes P ρ (convert src dst x') ob nv w := by
 unfold aToBytes at h
 split at h
 case h_2 => cases h
 rename_i s
 cases hx
 split at h
 case h_2 => cases h
 rename_i d e hs hd
 split at h
 case h_2 => cases h
 rename_i he
 cases h
 obtain ⟨v', ob', k, z, h1, h2, h3⟩ := makes_bytes (P := P) (ρ := ρ) e s w
 refine ⟨v', ob', k, z, ?_, h2, h3⟩
 rw [← h1]
 unfold convert
 rw [bind_run (underlying_pure hs), bind_run (underlying_pure hd)]
 dsimp only
 rw [bind_run (underlying_pure he)]
def aRange (P : Program) (t : TypeId) (x : Value) : Option (AObj × NewV) :=
 match x with
 | .string s => match P.underlying t with
  | some .string => some (.iter s 0, .ptr)
  | _ => none
 | _ => none
theorem aRange_sound {P : Program} {ρ : Place} {t : TypeId} {x x' : Value} {ob : AObj} {nv : NewV} (hx : VR ρ x x') (h : aRange P t x = some (ob, nv)) (w : World) : Makes P ρ (Instr.range t x') ob nv w := by
 unfold aRange at h
 split at h
 case h_2 => cases h
 rename_i s
 cases hx
 split at h
 case h_2 => cases h
 rename_i hu
 cases h
 refine ⟨_, .stringIter s 0, w.drawn, 0, ?_, fun B hB => ⟨rfl, rfl, hB, rfl⟩, fun ρ' b hb => VR.ptr (ρ := ρ') (o := 0) hb⟩
 unfold Instr.range
 rw [bind_run (underlying_pure hu)]
 rfl
def anew (P : Program) (o : Oper) (ev : Operand → Option Value) : Option (AObj × NewV) :=
 match o.op with
 | .alloc t => (aAlloc P t).map fun ob => (ob, .ptr)
 | .box _ x => (ev x).map fun v => (.cells v.cells.toList true, .ptr)
 | .buildSlice t len ps => match evP ev ps.toList with
  | some l => aBuildSlice P t len l
  | none => none
 | .makeSlice t x y => match ev x, ev y with
  | some u, some v => aMakeSlice P t u v
  | _, _ => none
 | .convert src dst x => match ev x with
  | some v => aToBytes P src dst v
  | none => none
 | .range t x => match ev x with
  | some v => aRange P t v
  | none => none
 | _ => none
theorem makes_value {P : Program} {ρ : Place} {s : Sem Value} {ob : AObj} {nv : NewV} {w : World} (h : Makes P ρ s ob nv w) :
  ∃ v' ob' d z, (s >>= fun r => pure (Next.value r)).run P w = .ok (.value v') (pushed { w with drawn := d } ob') ∧ (∀ O : Nat → Prop, ¬ O w.heap.size → ORel ρ O w.heap.size 0 z ob ob') ∧ (∀ ρ' b, ρ' b = some (w.heap.size, 0, z) → VR ρ' (nv.val b) v') := by
 obtain ⟨v', ob', d, z, h1, h2, h3⟩ := h
 exact ⟨v', ob', d, z, value_run h1, h2, h3⟩
theorem anew_sound {P : Program} {ρ : Place} {ev : Operand → Option Value} {a : Act} (hF : ERel ρ ev a) {o : Oper} {ob : AObj} {nv : NewV} (h : anew P o ev = some (ob, nv)) (w : World) :
  ∃ v' ob' d z, (execOp a.eval o).run P w = .ok (.value v') (pushed { w with drawn := d } ob') ∧ (∀ O : Nat → Prop, ¬ O w.heap.size → ORel ρ O w.heap.size 0 z ob ob') ∧ (∀ ρ' b, ρ' b = some (w.heap.size, 0, z) → VR ρ' (nv.val b) v') := by
 obtain ⟨dst, op, type, pos, after, guard⟩ := o
 unfold anew at h
 cases op <;> dsimp only at h <;> try (cases h)
 case alloc t =>
  simp only [Option.map_eq_some_iff] at h
  obtain ⟨ob', h1, h2⟩ := h
  cases h2
  exact makes_value (aAlloc_sound h1 w)
 case box t x =>
  simp only [Option.map_eq_some_iff] at h
  obtain ⟨v, h1, h2⟩ := h
  cases h2
  exact makes_value (aBox_sound (hF.eval h1) w)
 case buildSlice t len ps =>
  cases hx : evP ev ps.toList with
  | none => rw [hx] at h; cases h
  | some l =>
   rw [hx] at h
   have := makes_value (aBuildSlice_sound (evP_sound hF hx) h w)
   have e : (ps.toList.map fun p => (p.1, a.eval p.2)).toArray = ps.map fun (i, x) => (i, a.eval x) := by apply Array.ext'; simp
   rw [e] at this
   exact this
 case makeSlice t x y =>
  split at h
  ·rename_i u v hx hy
   exact makes_value (aMakeSlice_sound (hF.eval hx) (hF.eval hy) h w)
  ·cases h
 case convert src dst' x =>
  cases hx : ev x with
  | none => rw [hx] at h; cases h
  | some u => rw [hx] at h; exact makes_value (aToBytes_sound (hF.eval hx) h w)
 case range t x =>
  cases hx : ev x with
  | none => rw [hx] at h; cases h
  | some u => rw [hx] at h; exact makes_value (aRange_sound (hF.eval hx) h w)
end Go.Proofs.YtojlhapbngcjkaaGreatDoor
