/-
  Closed runs by evaluation, part 1: tries, abstract objects, the relation between abstract and concrete values. Conditions: as each theorem states them.
-/
import Derived.Handy
import Derived.Below
import Derived.Orders
noncomputable section
namespace Go.Proofs.YtegjnjmimfgijaaGreatDoor
open Go

/-- A map from numbers, by binary digits. -/
inductive Tr (α : Type) where
  | e
  | n (v : Option α) (l r : Tr α)
namespace Tr
variable {α : Type}
def get (t : Tr α) : Nat → Option α :=
  Tr.rec (motive := fun _ => Nat → Option α) (fun _ => none)
    (fun v _ _ gl gr k => Bool.rec (motive := fun _ => Option α) (Bool.rec (motive := fun _ => Option α) (gr (Nat.pred (Nat.div k 2))) (gl (Nat.div k 2)) (Nat.beq (Nat.mod k 2) 1)) v (Nat.beq k 0)) t
theorem get_e (k : Nat) : (Tr.e : Tr α).get k = none := rfl
theorem get_n (v : Option α) (l r : Tr α) (k : Nat) : (Tr.n v l r).get k = bif k.beq 0 then v else bif (k % 2).beq 1 then l.get (k / 2) else r.get (k / 2 - 1) := by
  show Bool.rec (motive := fun _ => Option α) (Bool.rec (motive := fun _ => Option α) (r.get (Nat.pred (Nat.div k 2))) (l.get (Nat.div k 2)) (Nat.beq (Nat.mod k 2) 1)) v (Nat.beq k 0) = _
  show _ = bif Nat.beq k 0 then v else bif Nat.beq (Nat.mod k 2) 1 then l.get (Nat.div k 2) else r.get (Nat.pred (Nat.div k 2))
  cases Nat.beq k 0 <;> cases Nat.beq (Nat.mod k 2) 1 <;> rfl
def top : Tr α → Option α
  | .e => none
  | .n v _ _ => v
def left : Tr α → Tr α
  | .e => .e
  | .n _ l _ => l
def right : Tr α → Tr α
  | .e => .e
  | .n _ _ r => r
theorem get_parts (t : Tr α) (k : Nat) : t.get k = bif k.beq 0 then t.top else bif (k % 2).beq 1 then t.left.get (k / 2) else t.right.get (k / 2 - 1) := by
  cases t with
  | e => simp only [get_e, top, left, right]; cases k.beq 0 <;> cases (k % 2).beq 1 <;> rfl
  | n v l r => exact get_n v l r k
def putF (o : Option α) (fuel : Nat) : Tr α → Nat → Tr α :=
  Nat.rec (motive := fun _ => Tr α → Nat → Tr α) (fun t _ => t)
    (fun _ ih t k => Bool.rec (motive := fun _ => Tr α) (Bool.rec (motive := fun _ => Tr α) (Tr.rec (motive := fun _ => Tr α) (Tr.n none Tr.e (ih Tr.e (Nat.pred (Nat.div k 2)))) (fun v l r _ _ => Tr.n v l (ih r (Nat.pred (Nat.div k 2)))) t)
      (Tr.rec (motive := fun _ => Tr α) (Tr.n none (ih Tr.e (Nat.div k 2)) Tr.e) (fun v l r _ _ => Tr.n v (ih l (Nat.div k 2)) r) t) (Nat.beq (Nat.mod k 2) 1))
      (Tr.rec (motive := fun _ => Tr α) (Tr.n o Tr.e Tr.e) (fun _ l r _ _ => Tr.n o l r) t) (Nat.beq k 0)) fuel
theorem putF_succ (o : Option α) (fuel : Nat) (t : Tr α) (k : Nat) : putF o (fuel + 1) t k =
    bif k.beq 0 then .n o t.left t.right else bif (k % 2).beq 1 then .n t.top (putF o fuel t.left (k / 2)) t.right else .n t.top t.left (putF o fuel t.right (k / 2 - 1)) := by
  show _ = bif Nat.beq k 0 then Tr.n o t.left t.right else bif Nat.beq (Nat.mod k 2) 1 then Tr.n t.top (putF o fuel t.left (Nat.div k 2)) t.right else Tr.n t.top t.left (putF o fuel t.right (Nat.pred (Nat.div k 2)))
  unfold putF
  dsimp only
  cases t <;> cases Nat.beq k 0 <;> cases Nat.beq (Nat.mod k 2) 1 <;> rfl
def put (t : Tr α) (k : Nat) (o : Option α) : Tr α := putF o (k + 1) t k
theorem get_putF (o : Option α) : ∀ (fuel : Nat) (t : Tr α) (k j : Nat), k < fuel → (putF o fuel t k).get j = if j = k then o else t.get j := by
  intro fuel
  induction fuel with
  | zero => intro t k j h; omega
  | succ fuel ih =>
    intro t k j h
    rw [putF_succ, get_parts t j]
    by_cases hk : k = 0
    · subst hk
      simp only [Nat.beq, cond_true]
      rw [get_n]
      by_cases hj : j = 0
      · subst hj; rfl
      · have : j.beq 0 = false := by cases j <;> first | rfl | omega
        simp [this, hj]
    · have hkb : k.beq 0 = false := by cases k <;> first | rfl | omega
      rw [hkb, cond_false]
      by_cases ho : k % 2 = 1
      · rw [ho]
        simp only [Nat.beq, cond_true]
        rw [get_n]
        by_cases hj : j = 0
        · subst hj; simp [Nat.beq, top, Ne.symm hk]
        · have hjb : j.beq 0 = false := by cases j <;> first | rfl | omega
          rw [hjb]
          simp only [cond_false]
          by_cases hjo : j % 2 = 1
          · rw [hjo]
            simp only [Nat.beq, cond_true, left]
            rw [ih _ _ _ (by omega)]
            by_cases hjk : j = k
            · subst hjk; simp
            · rw [if_neg (by omega), if_neg hjk]
          · have : (j % 2).beq 1 = false := by have : j % 2 = 0 := by omega
                                               rw [this]; rfl
            rw [this]
            simp only [cond_false, right]
            rw [if_neg (by omega)]
      · have hko : (k % 2).beq 1 = false := by have : k % 2 = 0 := by omega
                                               rw [this]; rfl
        rw [hko, cond_false, get_n]
        by_cases hj : j = 0
        · subst hj; simp [Nat.beq, top, Ne.symm hk]
        · have hjb : j.beq 0 = false := by cases j <;> first | rfl | omega
          rw [hjb]
          simp only [cond_false]
          by_cases hjo : j % 2 = 1
          · rw [hjo]
            simp only [Nat.beq, cond_true, left]
            rw [if_neg (by omega)]
          · have : (j % 2).beq 1 = false := by have : j % 2 = 0 := by omega
                                               rw [this]; rfl
            rw [this]
            simp only [cond_false, right]
            rw [ih _ _ _ (by omega)]
            by_cases hjk : j = k
            · subst hjk; simp
            · rw [if_neg (by omega), if_neg hjk]
theorem get_put (t : Tr α) (k : Nat) (o : Option α) (j : Nat) : (t.put k o).get j = if j = k then o else t.get j := get_putF o _ t k j (by omega)
end Tr

/-- An abstract block: cells (and whether they may be written), or a walk through a string. -/
inductive AObj where
  | cells (c : List Value) (w : Bool)
  | iter (s : ByteArray) (pos : Nat)

/-- Package-level variables that hold what the text lays, and are never written: their cells. -/
def glob : Nat → Option (Array Value) := fun g => bif g.beq 0 then some #[.string ⟨#[]⟩, .string ⟨#[111, 114, 100, 101, 114]⟩, .string ⟨#[115, 104, 101, 101, 116]⟩, .string ⟨#[98, 97, 114]⟩, .string ⟨#[98, 117, 121]⟩, .string ⟨#[110, 101, 115, 116]⟩, .string ⟨#[115, 97, 119]⟩, .string ⟨#[115, 99, 114, 97, 112]⟩, .string ⟨#[102, 105, 116]⟩, .string ⟨#[119, 101, 108, 100]⟩, .string ⟨#[105, 110, 115, 112, 101, 99, 116]⟩, .string ⟨#[114, 101, 112, 97, 105, 114]⟩, .string ⟨#[112, 97, 99, 107, 97, 103, 101]⟩, .string ⟨#[119, 101, 105, 103, 104]⟩, .string ⟨#[101, 114, 101, 99, 116]⟩, .string ⟨#[112, 101, 114, 109, 105, 116]⟩, .string ⟨#[116, 101, 115, 116]⟩, .string ⟨#[108, 97, 117, 110, 99, 104]⟩, .string ⟨#[100, 101, 108, 105, 118, 101, 114]⟩] else bif g.beq 3 then some #[.int .u8 128, .int .u8 191, .int .u8 160, .int .u8 191, .int .u8 128, .int .u8 159, .int .u8 144, .int .u8 191, .int .u8 128, .int .u8 143, .int .u8 0, .int .u8 0, .int .u8 0, .int .u8 0, .int .u8 0, .int .u8 0, .int .u8 0, .int .u8 0, .int .u8 0, .int .u8 0, .int .u8 0, .int .u8 0, .int .u8 0, .int .u8 0, .int .u8 0, .int .u8 0, .int .u8 0, .int .u8 0, .int .u8 0, .int .u8 0, .int .u8 0, .int .u8 0] else none
/-- Where an abstract block lies: its block, the first of its cells there, and how many cells that block has; and blocks that never change again. -/
structure Place where
  pl : Nat → Option (Nat × Nat × Nat)
  fr : Nat → Option Obj
  gl : ∀ g cs, glob g = some cs → ∃ t fz, fr g = some (.cells cs t fz)
/-- Nothing but these. -/
def Place.any : Place := ⟨fun _ => none, fun g => match glob g with | some cs => some (.cells cs 0 (0, 0)) | none => none, fun g cs h => ⟨0, (0, 0), by rw [h]⟩⟩
instance : CoeFun Place (fun _ => Nat → Option (Nat × Nat × Nat)) := ⟨Place.pl⟩
/-- A slice whose elements never change: the size of an element, how many there are, and they. -/
abbrev tree (sz n : Nat) (els : Array Value) : Value := .func (.via sz #[] n false) els #[]
/-- An address in a slice whose elements never change: cell 'off' of element i. -/
abbrev treeAt (els : Array Value) (i off : Nat) : Value := .func (.via i #[] off true) els #[]

/-- A value without a block's name, and the concrete one; fr: the blocks that never change. -/
inductive VR0 (fr : Nat → Option Obj) : Value → Value → Prop where
  | bool (b : Bool) : VR0 fr (.bool b) (.bool b)
  | int (k : IntKind) (n : Int) : VR0 fr (.int k n) (.int k n)
  | float (k : FloatKind) (n : Nat) : VR0 fr (.float k n) (.float k n)
  | complex (k : FloatKind) (n m : Nat) : VR0 fr (.complex k n m) (.complex k n m)
  | string (s : ByteArray) : VR0 fr (.string s) (.string s)
  | nilPtr : VR0 fr (.pointer none) (.pointer none)
  | nilSlice (n c : Nat) : VR0 fr (.slice none n c) (.slice none n c)
  | nilMap : VR0 fr (.map none) (.map none)
  | nilChan : VR0 fr (.chan none) (.chan none)
  | func (k : Nat) {f f' c c' : Array Value} : f.size = f'.size → (∀ (i : Nat) (v v' : Value), f[i]? = some v → f'[i]? = some v' → VR0 fr v v') →
      c.size = c'.size → (∀ (i : Nat) (v v' : Value), c[i]? = some v → c'[i]? = some v' → VR0 fr v v') → VR0 fr (.func (.func k) f c) (.func (.func k) f' c')
  | tree {sz n cap c o : Nat} {els cs : Array Value} {t : TypeId} {fz : Nat × Nat} : fr c = some (.cells cs t fz) → els.size = n → n ≤ cap → o + n * sz ≤ cs.size →
      (∀ (i : Nat) (u : Value), els[i]? = some u → u.cells.size = sz) →
      (∀ (i j : Nat) (u v v' : Value), els[i]? = some u → u.cells[j]? = some v → cs[o + i * sz + j]? = some v' → VR0 fr v v') → VR0 fr (tree sz n els) (.slice (some ⟨c, o, none⟩) n cap)
  | treeNil (sz : Nat) (a : Option Addr) (cap : Nat) : VR0 fr (tree sz 0 #[]) (.slice a 0 cap)
  | treeAt {i off c o : Nat} {els cs : Array Value} {t : TypeId} {fz : Nat × Nat} {u : Value} : fr c = some (.cells cs t fz) → els[i]? = some u → o + u.cells.size ≤ cs.size →
      (∀ (j : Nat) (v v' : Value), u.cells[j]? = some v → cs[o + j]? = some v' → VR0 fr v v') → VR0 fr (treeAt els i off) (.pointer (some ⟨c, o + off, none⟩))
  | nilFunc : VR0 fr .nilFunc .nilFunc
  | iface (t : TypeId) {v v' : Value} : VR0 fr v v' → VR0 fr (.iface t v) (.iface t v')
  | nilIface : VR0 fr .nilIface .nilIface
  | agg {c c' : Array Value} : c.size = c'.size → (∀ (i : Nat) (v v' : Value), c[i]? = some v → c'[i]? = some v' → VR0 fr v v') → VR0 fr (.agg c) (.agg c')
  | tuple {c c' : Array Value} : c.size = c'.size → (∀ (i : Nat) (v v' : Value), c[i]? = some v → c'[i]? = some v' → VR0 fr v v') → VR0 fr (.tuple c) (.tuple c')
theorem VR0.mono {fr fr' : Nat → Option Obj} (h : ∀ c x, fr c = some x → fr' c = some x) {v v' : Value} (hv : VR0 fr v v') : VR0 fr' v v' := by
  induction hv with
  | bool b => exact .bool b
  | int k n => exact .int k n
  | float k n => exact .float k n
  | complex k n m => exact .complex k n m
  | string s => exact .string s
  | nilPtr => exact .nilPtr
  | nilSlice n c => exact .nilSlice n c
  | nilMap => exact .nilMap
  | nilChan => exact .nilChan
  | func k h1 _ h3 _ i1 i2 => exact .func k h1 i1 h3 i2
  | tree hb h1 h2 h3 h4 _ ih => exact .tree (h _ _ hb) h1 h2 h3 h4 ih
  | treeNil sz a cap => exact .treeNil sz a cap
  | treeAt hb h1 h2 _ ih => exact .treeAt (h _ _ hb) h1 h2 ih
  | nilFunc => exact .nilFunc
  | iface t _ ih => exact .iface t ih
  | nilIface => exact .nilIface
  | agg h1 _ ih => exact .agg h1 ih
  | tuple h1 _ ih => exact .tuple h1 ih
/-- An abstract value (its blocks are abstract; a slice's capacity is its elements' cells) and the concrete one. -/
inductive VR (ρ : Place) : Value → Value → Prop where
  | bool (b : Bool) : VR ρ (.bool b) (.bool b)
  | int (k : IntKind) (n : Int) : VR ρ (.int k n) (.int k n)
  | float (k : FloatKind) (n : Nat) : VR ρ (.float k n) (.float k n)
  | complex (k : FloatKind) (n m : Nat) : VR ρ (.complex k n m) (.complex k n m)
  | string (s : ByteArray) : VR ρ (.string s) (.string s)
  | nilPtr : VR ρ (.pointer none) (.pointer none)
  | ptr {b o c s z : Nat} : ρ b = some (c, s, z) → VR ρ (.pointer (some ⟨b, o, none⟩)) (.pointer (some ⟨c, s + o, none⟩))
  | nilSlice (n c : Nat) : VR ρ (.slice none n c) (.slice none n c)
  | slice {b o n sz c s z cap : Nat} : ρ b = some (c, s, z) → n ≤ cap → s + o + cap * sz ≤ z → VR ρ (.slice (some ⟨b, o, none⟩) n sz) (.slice (some ⟨c, s + o, none⟩) n cap)
  | emptySlice {b o : Nat} {y : Nat × Nat × Nat} (a' : Addr) {sz : Nat} : ρ b = some y → VR ρ (.slice (some ⟨b, o, none⟩) 0 sz) (.slice (some a') 0 0)
  | nilMap : VR ρ (.map none) (.map none)
  | nilChan : VR ρ (.chan none) (.chan none)
  | func (k : Nat) {f f' c c' : Array Value} : f.size = f'.size → (∀ (i : Nat) (v v' : Value), f[i]? = some v → f'[i]? = some v' → VR ρ v v') →
      c.size = c'.size → (∀ (i : Nat) (v v' : Value), c[i]? = some v → c'[i]? = some v' → VR ρ v v') → VR ρ (.func (.func k) f c) (.func (.func k) f' c')
  | meth (name : String) {v v' : Value} : VR ρ v v' → VR ρ (.func (.method name) #[v] #[]) (.func (.method name) #[v'] #[])
  | tree {sz n cap c o : Nat} {els cs : Array Value} {t : TypeId} {fz : Nat × Nat} : ρ.fr c = some (.cells cs t fz) → els.size = n → n ≤ cap → o + n * sz ≤ cs.size →
      (∀ (i : Nat) (u : Value), els[i]? = some u → u.cells.size = sz) →
      (∀ (i j : Nat) (u v v' : Value), els[i]? = some u → u.cells[j]? = some v → cs[o + i * sz + j]? = some v' → VR0 ρ.fr v v') → VR ρ (tree sz n els) (.slice (some ⟨c, o, none⟩) n cap)
  | treeNil (sz : Nat) (a : Option Addr) (cap : Nat) : VR ρ (tree sz 0 #[]) (.slice a 0 cap)
  | treeAt {i off c o : Nat} {els cs : Array Value} {t : TypeId} {fz : Nat × Nat} {u : Value} : ρ.fr c = some (.cells cs t fz) → els[i]? = some u → o + u.cells.size ≤ cs.size →
      (∀ (j : Nat) (v v' : Value), u.cells[j]? = some v → cs[o + j]? = some v' → VR0 ρ.fr v v') → VR ρ (treeAt els i off) (.pointer (some ⟨c, o + off, none⟩))
  | nilFunc : VR ρ .nilFunc .nilFunc
  | iface (t : TypeId) {v v' : Value} : VR ρ v v' → VR ρ (.iface t v) (.iface t v')
  | nilIface : VR ρ .nilIface .nilIface
  | agg {c c' : Array Value} : c.size = c'.size → (∀ (i : Nat) (v v' : Value), c[i]? = some v → c'[i]? = some v' → VR ρ v v') → VR ρ (.agg c) (.agg c')
  | tuple {c c' : Array Value} : c.size = c'.size → (∀ (i : Nat) (v v' : Value), c[i]? = some v → c'[i]? = some v' → VR ρ v v') → VR ρ (.tuple c) (.tuple c')

/-- Arrays of values, cell by cell. -/
def VRA (ρ : Place) (c c' : Array Value) : Prop := c.size = c'.size ∧ ∀ (i : Nat) (v v' : Value), c[i]? = some v → c'[i]? = some v' → VR ρ v v'

def Place.le (ρ ρ' : Place) : Prop := (∀ b x, ρ b = some x → ρ' b = some x) ∧ ∀ c x, ρ.fr c = some x → ρ'.fr c = some x
theorem Place.le.refl (ρ : Place) : ρ.le ρ := ⟨fun _ _ h => h, fun _ _ h => h⟩
theorem Place.le.trans {a b c : Place} (h : a.le b) (k : b.le c) : a.le c := ⟨fun x y hx => k.1 x y (h.1 x y hx), fun x y hx => k.2 x y (h.2 x y hx)⟩
theorem VR.mono {ρ ρ' : Place} (h : ρ.le ρ') {v v' : Value} (hv : VR ρ v v') : VR ρ' v v' := by
  induction hv with
  | bool b => exact .bool b
  | int k n => exact .int k n
  | float k n => exact .float k n
  | complex k n m => exact .complex k n m
  | string s => exact .string s
  | nilPtr => exact .nilPtr
  | ptr hb => exact .ptr (h.1 _ _ hb)
  | nilSlice n c => exact .nilSlice n c
  | slice hb h1 h2 => exact .slice (h.1 _ _ hb) h1 h2
  | emptySlice a' hb => exact .emptySlice a' (h.1 _ _ hb)
  | nilMap => exact .nilMap
  | nilChan => exact .nilChan
  | func k h1 _ h3 _ i1 i2 => exact .func k h1 i1 h3 i2
  | meth name _ ih => exact .meth name ih
  | tree hb h1 h2 h3 h4 h5 => exact .tree (h.2 _ _ hb) h1 h2 h3 h4 fun i j u v v' a b c => (h5 i j u v v' a b c).mono h.2
  | treeNil sz a cap => exact .treeNil sz a cap
  | treeAt hb h1 h2 h3 => exact .treeAt (h.2 _ _ hb) h1 h2 fun j v v' a b => (h3 j v v' a b).mono h.2
  | nilFunc => exact .nilFunc
  | iface t _ ih => exact .iface t ih
  | nilIface => exact .nilIface
  | agg h1 _ ih => exact .agg h1 ih
  | tuple h1 _ ih => exact .tuple h1 ih
theorem VR0.lift {ρ : Place} {v v' : Value} (hv : VR0 ρ.fr v v') : VR ρ v v' := by
  induction hv with
  | bool b => exact .bool b
  | int k n => exact .int k n
  | float k n => exact .float k n
  | complex k n m => exact .complex k n m
  | string s => exact .string s
  | nilPtr => exact .nilPtr
  | nilSlice n c => exact .nilSlice n c
  | nilMap => exact .nilMap
  | nilChan => exact .nilChan
  | func k h1 _ h3 _ i1 i2 => exact .func k h1 i1 h3 i2
  | tree hb h1 h2 h3 h4 h5 => exact .tree hb h1 h2 h3 h4 h5
  | treeNil sz a cap => exact .treeNil sz a cap
  | treeAt hb h1 h2 h3 => exact .treeAt hb h1 h2 h3
  | nilFunc => exact .nilFunc
  | iface t _ ih => exact .iface t ih
  | nilIface => exact .nilIface
  | agg h1 _ ih => exact .agg h1 ih
  | tuple h1 _ ih => exact .tuple h1 ih
theorem VRA.mono {ρ ρ' : Place} (h : ρ.le ρ') {c c' : Array Value} (hv : VRA ρ c c') : VRA ρ' c c' := ⟨hv.1, fun i v v' a b => (hv.2 i v v' a b).mono h⟩
theorem VRA.get {ρ : Place} {c c' : Array Value} (h : VRA ρ c c') {i : Nat} {v : Value} (hv : c[i]? = some v) : ∃ v', c'[i]? = some v' ∧ VR ρ v v' := by
  have hi : i < c.size := by
    rcases Nat.lt_or_ge i c.size with h' | h'
    · exact h'
    · simp [Array.getElem?_eq_none h'] at hv
  have hi' : i < c'.size := h.1 ▸ hi
  exact ⟨c'[i], by simp, h.2 i v _ hv (by simp)⟩

/-- Values without an address, in one piece. -/
def flat : Value → Bool
  | .bool _ | .int _ _ | .float _ _ | .complex _ _ _ | .string _ | .pointer none | .slice none _ _ | .map none | .chan none | .nilFunc | .nilIface => true
  | .func (.func _) f c => f.isEmpty && c.isEmpty
  | _ => false
def flats (c : Array Value) : Bool := c.all flat
/-- Values without an address: flat ones, structs and arrays of them, and one layer above. -/
def closed1 : Value → Bool
  | .agg c => flats c
  | v => flat v
def closed : Value → Bool
  | .tuple c => c.all closed1
  | .iface _ v => closed1 v
  | v => closed1 v
theorem flat_refl {ρ : Place} {v : Value} (h : flat v = true) : VR ρ v v := by
  cases v with
  | bool b => exact .bool b
  | int k n => exact .int k n
  | float k n => exact .float k n
  | complex k n m => exact .complex k n m
  | string s => exact .string s
  | pointer a => cases a with
    | none => exact .nilPtr
    | some a => cases h
  | slice a n c => cases a with
    | none => exact .nilSlice n c
    | some a => cases h
  | map r => cases r with
    | none => exact .nilMap
    | some r => cases h
  | chan r => cases r with
    | none => exact .nilChan
    | some r => cases h
  | func fn f c =>
    cases fn <;> try (cases h)
    simp [flat] at h
    obtain ⟨rfl, rfl⟩ := h
    exact .func _ rfl (by simp) rfl (by simp)
  | nilFunc => exact .nilFunc
  | nilIface => exact .nilIface
  | iface t v => cases h
  | agg c => cases h
  | tuple c => cases h
theorem flat_refl0 {fr : Nat → Option Obj} {v : Value} (h : flat v = true) : VR0 fr v v := by
  cases v with
  | bool b => exact .bool b
  | int k n => exact .int k n
  | float k n => exact .float k n
  | complex k n m => exact .complex k n m
  | string s => exact .string s
  | pointer a => cases a with
    | none => exact .nilPtr
    | some a => cases h
  | slice a n c => cases a with
    | none => exact .nilSlice n c
    | some a => cases h
  | map r => cases r with
    | none => exact .nilMap
    | some r => cases h
  | chan r => cases r with
    | none => exact .nilChan
    | some r => cases h
  | func fn f c =>
    cases fn <;> try (cases h)
    simp [flat] at h
    obtain ⟨rfl, rfl⟩ := h
    exact .func _ rfl (by simp) rfl (by simp)
  | nilFunc => exact .nilFunc
  | nilIface => exact .nilIface
  | iface t v => cases h
  | agg c => cases h
  | tuple c => cases h
theorem flat_eq {ρ : Place} {v v' : Value} (h : flat v = true) (hv : VR ρ v v') : v' = v := by
  cases hv <;> first | rfl | cases h | skip
  case func h1 _ h3 _ =>
    simp [flat] at h
    obtain ⟨rfl, rfl⟩ := h
    simp at h1 h3
    have h1' := Array.eq_empty_of_size_eq_zero h1.symm
    have h3' := Array.eq_empty_of_size_eq_zero h3.symm
    subst h1' h3'
    rfl
theorem all_get {p : Value → Bool} {c : Array Value} (h : c.all p = true) {i : Nat} {v : Value} (hv : c[i]? = some v) : p v = true := by
  have := Array.mem_of_getElem? hv
  exact (Array.all_eq_true_iff_forall_mem.1 h) v this
theorem arr_refl {ρ : Place} {p : Value → Bool} (hp : ∀ v, p v = true → VR ρ v v) {c : Array Value} (h : c.all p = true) :
    ∀ (i : Nat) (v v' : Value), c[i]? = some v → c[i]? = some v' → VR ρ v v' := fun i v v' a b => by
  rw [a] at b; cases b; exact hp v (all_get h a)
theorem arr_eq {ρ : Place} {p : Value → Bool} (hp : ∀ v v', p v = true → VR ρ v v' → v' = v) {c c' : Array Value} (h : c.all p = true) (hs : c.size = c'.size)
    (hv : ∀ (i : Nat) (v v' : Value), c[i]? = some v → c'[i]? = some v' → VR ρ v v') : c' = c := by
  apply Array.ext hs.symm
  intro i h1 h2
  exact hp _ _ (all_get h (i := i) (by simp)) (hv i _ _ (by simp) (by simp))
theorem closed1_refl {ρ : Place} {v : Value} (h : closed1 v = true) : VR ρ v v := by
  cases v <;> first | exact flat_refl h | skip
  case agg c => exact .agg rfl (arr_refl (fun _ => flat_refl) h)
theorem closed1_eq {ρ : Place} {v v' : Value} (h : closed1 v = true) (hv : VR ρ v v') : v' = v := by
  cases v <;> first | exact flat_eq h hv | skip
  case agg c => cases hv with | agg hs hc => rw [arr_eq (fun _ _ => flat_eq) h hs hc]
theorem closed_refl {ρ : Place} {v : Value} (h : closed v = true) : VR ρ v v := by
  cases v <;> first | exact closed1_refl h | skip
  case iface t v => exact .iface t (closed1_refl h)
  case tuple c => exact .tuple rfl (arr_refl (fun _ => closed1_refl) h)
theorem closed_eq {ρ : Place} {v v' : Value} (h : closed v = true) (hv : VR ρ v v') : v' = v := by
  cases v <;> first | exact closed1_eq h hv | skip
  case iface t v => cases hv with | iface _ hv => rw [closed1_eq h hv]
  case tuple c => cases hv with | tuple hs hc => rw [arr_eq (fun _ _ => closed1_eq) h hs hc]

/-- A computation that looks at the program alone. -/
def pureRun (P : Program) {α : Type} (s : Sem α) : Option α :=
  Sem.rec (motive := fun _ => Option α) (fun a => some a) (fun _ _ _ _ => none) (fun _ _ _ _ _ => none) (fun _ _ _ => none) (fun _ _ _ => none) (fun _ _ _ _ => none)
    (fun _ _ _ => none) (fun _ _ _ => none) (fun _ _ _ _ => none) (fun _ _ _ => none) (fun _ _ _ => none) (fun _ ih => ih P) (fun _ _ ih => ih) (fun _ => none) s
theorem pureRun_run {P : Program} {α : Type} {s : Sem α} {v : α} (h : pureRun P s = some v) (w : World) : s.run P w = .ok v w := by
  induction s with
  | pure a => have h' : some a = some v := h; cases h'; rfl
  | program k ih => exact ih P h
  | mark m k ih => exact ih h
  | _ => exact nomatch (show (none : Option α) = some v from h)
end Go.Proofs.YtegjnjmimfgijaaGreatDoor
