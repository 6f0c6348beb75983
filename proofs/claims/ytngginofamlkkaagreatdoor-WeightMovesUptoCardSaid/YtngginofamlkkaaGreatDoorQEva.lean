/-
  Put together out of several texts, each in its own namespace's block. Conditions: as each theorem states them.
-/
import Derived.Handy
import Derived.Below
import Derived.Orders
noncomputable section
namespace Go.Proofs.YtngginofamlkkaaGreatDoor
open Go
inductive Tr (α : Type) where
 | e
 | n (v : Option α) (l r : Tr α)
namespace Tr
variable {α : Type}
def get (t : Tr α) : Nat -> Option α :=
 Tr.rec (motive:=fun _=>Nat -> Option α) (fun _=>none)
  (fun v _ _ gl gr k=>Bool.rec (motive:=fun _=>Option α) (Bool.rec (motive:=fun _=>Option α) (gr (Nat.pred (Nat.div k 2))) (gl (Nat.div k 2)) (Nat.beq (Nat.mod k 2) 1)) v (Nat.beq k 0)) t
theorem get_e (k : Nat) : (Tr.e : Tr α).get k = none:=rfl
theorem aJc (v : Option α) (l r : Tr α) (k : Nat) : (Tr.n v l r).get k = bif k.beq 0 then v else bif (k % 2).beq 1 then l.get (k / 2) else r.get (k / 2 - 1):=by
 show Bool.rec (motive:=fun _=>Option α) (Bool.rec (motive:=fun _=>Option α) (r.get (Nat.pred (Nat.div k 2))) (l.get (Nat.div k 2)) (Nat.beq (Nat.mod k 2) 1)) v (Nat.beq k 0) = _
 show _ = bif Nat.beq k 0 then v else bif Nat.beq (Nat.mod k 2) 1 then l.get (Nat.div k 2) else r.get (Nat.pred (Nat.div k 2))
 cases Nat.beq k 0 <;> cases Nat.beq (Nat.mod k 2) 1 <;> rfl
def top : Tr α -> Option α
 | .e=>none
 | .n v _ _=>v
def left : Tr α -> Tr α
 | .e=>.e
 | .n _ l _=>l
def right : Tr α -> Tr α
 | .e=>.e
 | .n _ _ r=>r
theorem aJu (t : Tr α) (k : Nat) : t.get k = bif k.beq 0 then t.top else bif (k % 2).beq 1 then t.left.get (k / 2) else t.right.get (k / 2 - 1):=by
 cases t with
 | e=>simp only [get_e,top,left,right]; cases k.beq 0 <;> cases (k % 2).beq 1 <;> rfl
 | n v l r=>exact aJc v l r k
def aGs (o : Option α) (fuel : Nat) : Tr α -> Nat -> Tr α :=
 Nat.rec (motive:=fun _=>Tr α -> Nat -> Tr α) (fun t _=>t)
  (fun _ ih t k=>Bool.rec (motive:=fun _=>Tr α) (Bool.rec (motive:=fun _=>Tr α) (Tr.rec (motive:=fun _=>Tr α) (Tr.n none Tr.e (ih Tr.e (Nat.pred (Nat.div k 2)))) (fun v l r _ _=>Tr.n v l (ih r (Nat.pred (Nat.div k 2)))) t)
   (Tr.rec (motive:=fun _=>Tr α) (Tr.n none (ih Tr.e (Nat.div k 2)) Tr.e) (fun v l r _ _=>Tr.n v (ih l (Nat.div k 2)) r) t) (Nat.beq (Nat.mod k 2) 1))
   (Tr.rec (motive:=fun _=>Tr α) (Tr.n o Tr.e Tr.e) (fun _ l r _ _=>Tr.n o l r) t) (Nat.beq k 0)) fuel
theorem aKL (o : Option α) (fuel : Nat) (t : Tr α) (k : Nat) : aGs o (fuel + 1) t k =
  bif k.beq 0 then .n o t.left t.right else bif (k % 2).beq 1 then .n t.top (aGs o fuel t.left (k / 2)) t.right else .n t.top t.left (aGs o fuel t.right (k / 2 - 1)):=by
 show _ = bif Nat.beq k 0 then Tr.n o t.left t.right else bif Nat.beq (Nat.mod k 2) 1 then Tr.n t.top (aGs o fuel t.left (Nat.div k 2)) t.right else Tr.n t.top t.left (aGs o fuel t.right (Nat.pred (Nat.div k 2)))
 unfold aGs
 dsimp only
 cases t <;> cases Nat.beq k 0 <;> cases Nat.beq (Nat.mod k 2) 1 <;> rfl
def put (t : Tr α) (k : Nat) (o : Option α) : Tr α:=aGs o (k + 1) t k
theorem aM6 (o : Option α) : ∀ (fuel : Nat) (t : Tr α) (k j : Nat),k < fuel -> (aGs o fuel t k).get j = if j = k then o else t.get j:=by
 intro fuel
 induction fuel with
 | zero=>intro t k j h; omega
 | succ fuel ih =>
  intro t k j h
  rw [aKL,aJu t j]
  by_cases hk : k = 0
  ·subst hk
   simp only [Nat.beq,cond_true]
   rw [aJc]
   by_cases hj : j = 0
   ·subst hj; rfl
   ·have : j.beq 0 = false:=by cases j <;> first | rfl | omega
    simp [this,hj]
  ·have hkb : k.beq 0 = false:=by cases k <;> first | rfl | omega
   rw [hkb,cond_false]
   by_cases ho : k % 2 = 1
   ·rw [ho]
    simp only [Nat.beq,cond_true]
    rw [aJc]
    by_cases hj : j = 0
    ·subst hj; simp [Nat.beq,top,Ne.symm hk]
    ·have hjb : j.beq 0 = false:=by cases j <;> first | rfl | omega
     rw [hjb]
     simp only [cond_false]
     by_cases hjo : j % 2 = 1
     ·rw [hjo]
      simp only [Nat.beq,cond_true,left]
      rw [ih _ _ _ (by omega)]
      by_cases hjk : j = k
      ·subst hjk; simp
      ·rw [if_neg (by omega),if_neg hjk]
     ·have : (j % 2).beq 1 = false:=by (have : j % 2 = 0:=by omega); rw [this]; rfl
      rw [this]
      simp only [cond_false,right]
      rw [if_neg (by omega)]
   ·have hko : (k % 2).beq 1 = false:=by (have : k % 2 = 0:=by omega); rw [this]; rfl
    rw [hko,cond_false,aJc]
    by_cases hj : j = 0
    ·subst hj; simp [Nat.beq,top,Ne.symm hk]
    ·have hjb : j.beq 0 = false:=by cases j <;> first | rfl | omega
     rw [hjb]
     simp only [cond_false]
     by_cases hjo : j % 2 = 1
     ·rw [hjo]
      simp only [Nat.beq,cond_true,left]
      rw [if_neg (by omega)]
     ·have : (j % 2).beq 1 = false:=by (have : j % 2 = 0:=by omega); rw [this]; rfl
      rw [this]
      simp only [cond_false,right]
      rw [ih _ _ _ (by omega)]
      by_cases hjk : j = k
      ·subst hjk; simp
      ·rw [if_neg (by omega),if_neg hjk]
theorem get_put (t : Tr α) (k : Nat) (o : Option α) (j : Nat) : (t.put k o).get j = if j = k then o else t.get j:=aM6 o _ t k j (by omega)
end Tr

inductive AObj where
 | cells (c : List Value) (w : Bool)
 | iter (s : ByteArray) (pos : Nat)
def aHz : Nat -> Option (Array Value):=fun g=>bif g.beq 3 then some #[.int .u8 0,.int .u8 1,.int .u8 56,.int .u8 2,.int .u8 57,.int .u8 49,.int .u8 28,.int .u8 3,.int .u8 61,.int .u8 58,.int .u8 42,.int .u8 50,.int .u8 38,.int .u8 29,.int .u8 17,.int .u8 4,.int .u8 62,.int .u8 47,.int .u8 59,.int .u8 36,.int .u8 45,.int .u8 43,.int .u8 51,.int .u8 22,.int .u8 53,.int .u8 39,.int .u8 33,.int .u8 30,.int .u8 24,.int .u8 18,.int .u8 12,.int .u8 5,.int .u8 63,.int .u8 55,.int .u8 48,.int .u8 27,.int .u8 60,.int .u8 41,.int .u8 37,.int .u8 16,.int .u8 46,.int .u8 35,.int .u8 44,.int .u8 21,.int .u8 52,.int .u8 32,.int .u8 23,.int .u8 11,.int .u8 54,.int .u8 26,.int .u8 40,.int .u8 15,.int .u8 34,.int .u8 20,.int .u8 31,.int .u8 10,.int .u8 25,.int .u8 14,.int .u8 19,.int .u8 9,.int .u8 13,.int .u8 8,.int .u8 7,.int .u8 6] else none
structure Place where
 pl : Nat -> Option (Nat × Nat × Nat)
 fr : Nat -> Option Obj
 gl : ∀ g cs,aHz g = some cs -> ∃ t fz,fr g = some (.cells cs t fz)
def Place.any : Place:=⟨fun _=>none,fun g=>match aHz g with | some cs=>some (.cells cs 0 (0,0)) | none=>none,fun g cs h=>⟨0,(0,0),by rw [h]⟩⟩
instance : CoeFun Place (fun _=>Nat -> Option (Nat × Nat × Nat)):=⟨Place.pl⟩
abbrev tree (sz n : Nat) (els : Array Value) : Value:=.func (.via sz #[] n false) els #[]
abbrev treeAt (els : Array Value) (i off : Nat) : Value:=.func (.via i #[] off true) els #[]
inductive VR0 (fr : Nat -> Option Obj) : Value -> Value -> Prop where
 | bool (b : Bool) : VR0 fr (.bool b) (.bool b)
 | int (k : IntKind) (n : Int) : VR0 fr (.int k n) (.int k n)
 | float (k : FloatKind) (n : Nat) : VR0 fr (.float k n) (.float k n)
 | complex (k : FloatKind) (n m : Nat) : VR0 fr (.complex k n m) (.complex k n m)
 | string (s : ByteArray) : VR0 fr (.string s) (.string s)
 | nilPtr : VR0 fr (.pointer none) (.pointer none)
 | nilSlice (n c : Nat) : VR0 fr (.slice none n c) (.slice none n c)
 | nilMap : VR0 fr (.map none) (.map none)
 | nilChan : VR0 fr (.chan none) (.chan none)
 | func (k : Nat) {f f' c c' : Array Value} : f.size = f'.size -> (∀ (i : Nat) (v v' : Value),f[i]? = some v -> f'[i]? = some v' -> VR0 fr v v') ->
   c.size = c'.size -> (∀ (i : Nat) (v v' : Value),c[i]? = some v -> c'[i]? = some v' -> VR0 fr v v') -> VR0 fr (.func (.func k) f c) (.func (.func k) f' c')
 | tree {sz n cap c o : Nat} {els cs : Array Value} {t : TypeId} {fz : Nat × Nat} : fr c = some (.cells cs t fz) -> els.size = n -> n <= cap -> o + n * sz <= cs.size ->
   (∀ (i : Nat) (u : Value),els[i]? = some u -> u.cells.size = sz) ->
   (∀ (i j : Nat) (u v v' : Value),els[i]? = some u -> u.cells[j]? = some v -> cs[o + i * sz + j]? = some v' -> VR0 fr v v') -> VR0 fr (tree sz n els) (.slice (some ⟨c,o,none⟩) n cap)
 | treeNil (sz : Nat) (a : Option Addr) (cap : Nat) : VR0 fr (tree sz 0 #[]) (.slice a 0 cap)
 | treeAt {i off c o : Nat} {els cs : Array Value} {t : TypeId} {fz : Nat × Nat} {u : Value} : fr c = some (.cells cs t fz) -> els[i]? = some u -> o + u.cells.size <= cs.size ->
   (∀ (j : Nat) (v v' : Value),u.cells[j]? = some v -> cs[o + j]? = some v' -> VR0 fr v v') -> VR0 fr (treeAt els i off) (.pointer (some ⟨c,o + off,none⟩))
 | nilFunc : VR0 fr .nilFunc .nilFunc
 | iface (t : TypeId) {v v' : Value} : VR0 fr v v' -> VR0 fr (.iface t v) (.iface t v')
 | nilIface : VR0 fr .nilIface .nilIface
 | agg {c c' : Array Value} : c.size = c'.size -> (∀ (i : Nat) (v v' : Value),c[i]? = some v -> c'[i]? = some v' -> VR0 fr v v') -> VR0 fr (.agg c) (.agg c')
 | tuple {c c' : Array Value} : c.size = c'.size -> (∀ (i : Nat) (v v' : Value),c[i]? = some v -> c'[i]? = some v' -> VR0 fr v v') -> VR0 fr (.tuple c) (.tuple c')
theorem VR0.mono {fr fr' : Nat -> Option Obj} (h : ∀ c x,fr c = some x -> fr' c = some x) {v v' : Value} (hv : VR0 fr v v') : VR0 fr' v v':=by
 induction hv with
 | bool b=>exact .bool b
 | int k n=>exact .int k n
 | float k n=>exact .float k n
 | complex k n m=>exact .complex k n m
 | string s=>exact .string s
 | nilPtr=>exact .nilPtr
 | nilSlice n c=>exact .nilSlice n c
 | nilMap=>exact .nilMap
 | nilChan=>exact .nilChan
 | func k h1 _ h3 _ i1 i2=>exact .func k h1 i1 h3 i2
 | tree hb h1 h2 h3 h4 _ ih=>exact .tree (h _ _ hb) h1 h2 h3 h4 ih
 | treeNil sz a cap=>exact .treeNil sz a cap
 | treeAt hb h1 h2 _ ih=>exact .treeAt (h _ _ hb) h1 h2 ih
 | nilFunc=>exact .nilFunc
 | iface t _ ih=>exact .iface t ih
 | nilIface=>exact .nilIface
 | agg h1 _ ih=>exact .agg h1 ih
 | tuple h1 _ ih=>exact .tuple h1 ih
inductive VR (ρ : Place) : Value -> Value -> Prop where
 | bool (b : Bool) : VR ρ (.bool b) (.bool b)
 | int (k : IntKind) (n : Int) : VR ρ (.int k n) (.int k n)
 | float (k : FloatKind) (n : Nat) : VR ρ (.float k n) (.float k n)
 | complex (k : FloatKind) (n m : Nat) : VR ρ (.complex k n m) (.complex k n m)
 | string (s : ByteArray) : VR ρ (.string s) (.string s)
 | nilPtr : VR ρ (.pointer none) (.pointer none)
 | ptr {b o c s z : Nat} : ρ b = some (c,s,z) -> VR ρ (.pointer (some ⟨b,o,none⟩)) (.pointer (some ⟨c,s + o,none⟩))
 | nilSlice (n c : Nat) : VR ρ (.slice none n c) (.slice none n c)
 | slice {b o n sz c s z cap : Nat} : ρ b = some (c,s,z) -> n <= cap -> s + o + cap * sz <= z -> VR ρ (.slice (some ⟨b,o,none⟩) n sz) (.slice (some ⟨c,s + o,none⟩) n cap)
 | emptySlice {b o : Nat} {y : Nat × Nat × Nat} (a' : Addr) {sz : Nat} : ρ b = some y -> VR ρ (.slice (some ⟨b,o,none⟩) 0 sz) (.slice (some a') 0 0)
 | nilMap : VR ρ (.map none) (.map none)
 | nilChan : VR ρ (.chan none) (.chan none)
 | func (k : Nat) {f f' c c' : Array Value} : f.size = f'.size -> (∀ (i : Nat) (v v' : Value),f[i]? = some v -> f'[i]? = some v' -> VR ρ v v') ->
   c.size = c'.size -> (∀ (i : Nat) (v v' : Value),c[i]? = some v -> c'[i]? = some v' -> VR ρ v v') -> VR ρ (.func (.func k) f c) (.func (.func k) f' c')
 | meth (name : String) {v v' : Value} : VR ρ v v' -> VR ρ (.func (.method name) #[v] #[]) (.func (.method name) #[v'] #[])
 | tree {sz n cap c o : Nat} {els cs : Array Value} {t : TypeId} {fz : Nat × Nat} : ρ.fr c = some (.cells cs t fz) -> els.size = n -> n <= cap -> o + n * sz <= cs.size ->
   (∀ (i : Nat) (u : Value),els[i]? = some u -> u.cells.size = sz) ->
   (∀ (i j : Nat) (u v v' : Value),els[i]? = some u -> u.cells[j]? = some v -> cs[o + i * sz + j]? = some v' -> VR0 ρ.fr v v') -> VR ρ (tree sz n els) (.slice (some ⟨c,o,none⟩) n cap)
 | treeNil (sz : Nat) (a : Option Addr) (cap : Nat) : VR ρ (tree sz 0 #[]) (.slice a 0 cap)
 | treeAt {i off c o : Nat} {els cs : Array Value} {t : TypeId} {fz : Nat × Nat} {u : Value} : ρ.fr c = some (.cells cs t fz) -> els[i]? = some u -> o + u.cells.size <= cs.size ->
   (∀ (j : Nat) (v v' : Value),u.cells[j]? = some v -> cs[o + j]? = some v' -> VR0 ρ.fr v v') -> VR ρ (treeAt els i off) (.pointer (some ⟨c,o + off,none⟩))
 | nilFunc : VR ρ .nilFunc .nilFunc
 | iface (t : TypeId) {v v' : Value} : VR ρ v v' -> VR ρ (.iface t v) (.iface t v')
 | nilIface : VR ρ .nilIface .nilIface
 | agg {c c' : Array Value} : c.size = c'.size -> (∀ (i : Nat) (v v' : Value),c[i]? = some v -> c'[i]? = some v' -> VR ρ v v') -> VR ρ (.agg c) (.agg c')
 | tuple {c c' : Array Value} : c.size = c'.size -> (∀ (i : Nat) (v v' : Value),c[i]? = some v -> c'[i]? = some v' -> VR ρ v v') -> VR ρ (.tuple c) (.tuple c')
def VRA (ρ : Place) (c c' : Array Value) : Prop:=c.size = c'.size /\ ∀ (i : Nat) (v v' : Value),c[i]? = some v -> c'[i]? = some v' -> VR ρ v v'
def Place.le (ρ ρ' : Place) : Prop:=(∀ b x,ρ b = some x -> ρ' b = some x) /\ ∀ c x,ρ.fr c = some x -> ρ'.fr c = some x
theorem Place.le.refl (ρ : Place) : ρ.le ρ:=⟨fun _ _ h=>h,fun _ _ h=>h⟩
theorem Place.le.trans {a b c : Place} (h : a.le b) (k : b.le c) : a.le c:=⟨fun x y hx=>k.1 x y (h.1 x y hx),fun x y hx=>k.2 x y (h.2 x y hx)⟩
theorem VR.mono {ρ ρ' : Place} (h : ρ.le ρ') {v v' : Value} (hv : VR ρ v v') : VR ρ' v v':=by
 induction hv with
 | bool b=>exact .bool b
 | int k n=>exact .int k n
 | float k n=>exact .float k n
 | complex k n m=>exact .complex k n m
 | string s=>exact .string s
 | nilPtr=>exact .nilPtr
 | ptr hb=>exact .ptr (h.1 _ _ hb)
 | nilSlice n c=>exact .nilSlice n c
 | slice hb h1 h2=>exact .slice (h.1 _ _ hb) h1 h2
 | emptySlice a' hb=>exact .emptySlice a' (h.1 _ _ hb)
 | nilMap=>exact .nilMap
 | nilChan=>exact .nilChan
 | func k h1 _ h3 _ i1 i2=>exact .func k h1 i1 h3 i2
 | meth name _ ih=>exact .meth name ih
 | tree hb h1 h2 h3 h4 h5=>exact .tree (h.2 _ _ hb) h1 h2 h3 h4 fun i j u v v' a b c=>(h5 i j u v v' a b c).mono h.2
 | treeNil sz a cap=>exact .treeNil sz a cap
 | treeAt hb h1 h2 h3=>exact .treeAt (h.2 _ _ hb) h1 h2 fun j v v' a b=>(h3 j v v' a b).mono h.2
 | nilFunc=>exact .nilFunc
 | iface t _ ih=>exact .iface t ih
 | nilIface=>exact .nilIface
 | agg h1 _ ih=>exact .agg h1 ih
 | tuple h1 _ ih=>exact .tuple h1 ih
theorem VR0.lift {ρ : Place} {v v' : Value} (hv : VR0 ρ.fr v v') : VR ρ v v':=by
 induction hv with
 | bool b=>exact .bool b
 | int k n=>exact .int k n
 | float k n=>exact .float k n
 | complex k n m=>exact .complex k n m
 | string s=>exact .string s
 | nilPtr=>exact .nilPtr
 | nilSlice n c=>exact .nilSlice n c
 | nilMap=>exact .nilMap
 | nilChan=>exact .nilChan
 | func k h1 _ h3 _ i1 i2=>exact .func k h1 i1 h3 i2
 | tree hb h1 h2 h3 h4 h5=>exact .tree hb h1 h2 h3 h4 h5
 | treeNil sz a cap=>exact .treeNil sz a cap
 | treeAt hb h1 h2 h3=>exact .treeAt hb h1 h2 h3
 | nilFunc=>exact .nilFunc
 | iface t _ ih=>exact .iface t ih
 | nilIface=>exact .nilIface
 | agg h1 _ ih=>exact .agg h1 ih
 | tuple h1 _ ih=>exact .tuple h1 ih
theorem VRA.mono {ρ ρ' : Place} (h : ρ.le ρ') {c c' : Array Value} (hv : VRA ρ c c') : VRA ρ' c c':=⟨hv.1,fun i v v' a b=>(hv.2 i v v' a b).mono h⟩
theorem VRA.get {ρ : Place} {c c' : Array Value} (h : VRA ρ c c') {i : Nat} {v : Value} (hv : c[i]? = some v) : ∃ v',c'[i]? = some v' /\ VR ρ v v':=by
 have hi : i < c.size:=by
  rcases Nat.lt_or_ge i c.size with h' | h'
  ·exact h'
  ·simp [Array.getElem?_eq_none h'] at hv
 have hi' : i < c'.size:=h.1 ▸ hi
 exact ⟨c'[i],by simp,h.2 i v _ hv (by simp)⟩
def flat : Value -> Bool
 | .bool _ | .int _ _ | .float _ _ | .complex _ _ _ | .string _ | .pointer none | .slice none _ _ | .map none | .chan none | .nilFunc | .nilIface=>true
 | .func (.func _) f c=>f.isEmpty && c.isEmpty
 | _=>false
def dM (c : Array Value) : Bool:=c.all flat
def eY : Value -> Bool
 | .agg c=>dM c
 | v=>flat v
def dK : Value -> Bool
 | .tuple c=>c.all eY
 | .iface _ v=>eY v
 | v=>eY v
theorem oB {ρ : Place} {v : Value} (h : flat v = true) : VR ρ v v:=by
 cases v with
 | bool b=>exact .bool b
 | int k n=>exact .int k n
 | float k n=>exact .float k n
 | complex k n m=>exact .complex k n m
 | string s=>exact .string s
 | pointer a=>cases a with
  | none=>exact .nilPtr
  | some a=>cases h
 | slice a n c=>cases a with
  | none=>exact .nilSlice n c
  | some a=>cases h
 | map r=>cases r with
  | none=>exact .nilMap
  | some r=>cases h
 | chan r=>cases r with
  | none=>exact .nilChan
  | some r=>cases h
 | func fn f c =>
  cases fn <;> try (cases h)
  simp [flat] at h
  obtain ⟨rfl,rfl⟩:=h
  exact .func _ rfl (by simp) rfl (by simp)
 | nilFunc=>exact .nilFunc
 | nilIface=>exact .nilIface
 | iface t v=>cases h
 | agg c=>cases h
 | tuple c=>cases h
theorem aGL {fr : Nat -> Option Obj} {v : Value} (h : flat v = true) : VR0 fr v v:=by
 cases v with
 | bool b=>exact .bool b
 | int k n=>exact .int k n
 | float k n=>exact .float k n
 | complex k n m=>exact .complex k n m
 | string s=>exact .string s
 | pointer a=>cases a with
  | none=>exact .nilPtr
  | some a=>cases h
 | slice a n c=>cases a with
  | none=>exact .nilSlice n c
  | some a=>cases h
 | map r=>cases r with
  | none=>exact .nilMap
  | some r=>cases h
 | chan r=>cases r with
  | none=>exact .nilChan
  | some r=>cases h
 | func fn f c =>
  cases fn <;> try (cases h)
  simp [flat] at h
  obtain ⟨rfl,rfl⟩:=h
  exact .func _ rfl (by simp) rfl (by simp)
 | nilFunc=>exact .nilFunc
 | nilIface=>exact .nilIface
 | iface t v=>cases h
 | agg c=>cases h
 | tuple c=>cases h
theorem oU {ρ : Place} {v v' : Value} (h : flat v = true) (hv : VR ρ v v') : v' = v:=by
 cases hv <;> first | rfl | cases h | skip
 case func h1 _ h3 _ =>
  simp [flat] at h
  obtain ⟨rfl,rfl⟩:=h
  simp at h1 h3
  have h1':=Array.eq_empty_of_size_eq_zero h1.symm
  have h3':=Array.eq_empty_of_size_eq_zero h3.symm
  subst h1' h3'
  rfl
theorem lK {p : Value -> Bool} {c : Array Value} (h : c.all p = true) {i : Nat} {v : Value} (hv : c[i]? = some v) : p v = true:=by
 have:=Array.mem_of_getElem? hv
 exact (Array.all_eq_true_iff_forall_mem.1 h) v this
theorem aB0 {ρ : Place} {p : Value -> Bool} (hp : ∀ v,p v = true -> VR ρ v v) {c : Array Value} (h : c.all p = true) :
  ∀ (i : Nat) (v v' : Value),c[i]? = some v -> c[i]? = some v' -> VR ρ v v':=fun i v v' a b=>by
 rw [a] at b; cases b; exact hp v (lK h a)
theorem aGN {ρ : Place} {p : Value -> Bool} (hp : ∀ v v',p v = true -> VR ρ v v' -> v' = v) {c c' : Array Value} (h : c.all p = true) (hs : c.size = c'.size)
  (hv : ∀ (i : Nat) (v v' : Value),c[i]? = some v -> c'[i]? = some v' -> VR ρ v v') : c' = c:=by
 apply Array.ext hs.symm
 intro i h1 h2
 exact hp _ _ (lK h (i:=i) (by simp)) (hv i _ _ (by simp) (by simp))
theorem pI {ρ : Place} {v : Value} (h : eY v = true) : VR ρ v v:=by
 cases v <;> first | exact oB h | skip
 case agg c=>exact .agg rfl (aB0 (fun _=>oB) h)
theorem kB {ρ : Place} {v v' : Value} (h : eY v = true) (hv : VR ρ v v') : v' = v:=by
 cases v <;> first | exact oU h hv | skip
 case agg c=>cases hv with | agg hs hc=>rw [aGN (fun _ _=>oU) h hs hc]
theorem cJ {ρ : Place} {v : Value} (h : dK v = true) : VR ρ v v:=by
 cases v <;> first | exact pI h | skip
 case iface t v=>exact .iface t (pI h)
 case tuple c=>exact .tuple rfl (aB0 (fun _=>pI) h)
theorem rT {ρ : Place} {v v' : Value} (h : dK v = true) (hv : VR ρ v v') : v' = v:=by
 cases v <;> first | exact kB h hv | skip
 case iface t v=>cases hv with | iface _ hv=>rw [kB h hv]
 case tuple c=>cases hv with | tuple hs hc=>rw [aGN (fun _ _=>kB) h hs hc]
def aF (P : Program) {α : Type} (s : Sem α) : Option α :=
 Sem.rec (motive:=fun _=>Option α) (fun a=>some a) (fun _ _ _ _=>none) (fun _ _ _ _ _=>none) (fun _ _ _=>none) (fun _ _ _=>none) (fun _ _ _ _=>none)
  (fun _ _ _=>none) (fun _ _ _=>none) (fun _ _ _ _=>none) (fun _ _ _=>none) (fun _ _ _=>none) (fun _ ih=>ih P) (fun _ _ ih=>ih) (fun _=>none) s
theorem fI {P : Program} {α : Type} {s : Sem α} {v : α} (h : aF P s = some v) (w : World) : s.run P w = .ok v w:=by
 induction s with
 | pure a=>have h' : some a = some v:=h; cases h'; rfl
 | program k ih=>exact ih P h
 | mark m k ih=>exact ih h
 | _=>exact nomatch (show (none : Option α) = some v from h)
end Go.Proofs.YtngginofamlkkaaGreatDoor

noncomputable section
namespace Go.Proofs.YtngginofamlkkaaGreatDoor
open Go
def aev (tm : Tr Value) (x : Operand) : Option Value :=
 Operand.rec (motive:=fun _=>Tr Value -> Option Value) (fun t tm=>tm.get t) (fun v _=>Bool.rec (motive:=fun _=>Option Value) none (some v) (dK v)) (fun g _=>match aHz g with | some cs=>bif dM cs then some (treeAt #[.agg cs] 0 0) else none | none=>none) (fun f _=>some (.func (.func f) #[] #[])) x tm
theorem aCM (tm : Tr Value) (v : Value) : aev tm (.const v) = bif dK v then some v else none:=by
 show Bool.rec (motive:=fun _=>Option Value) none (some v) (dK v) = _
 cases dK v <;> rfl
theorem aIk {ρ : Place} {tm : Tr Value} {g : Nat} {v : Value} (hv : aev tm (.global g) = some v) (a : Act) : VR ρ v (a.eval (.global g)):=by
 have hv' : (match aHz g with | some cs=>bif dM cs then some (treeAt #[.agg cs] 0 0) else none | none=>none) = some v:=hv
 split at hv'
 case h_2=>cases hv'
 rename_i cs hg
 cases hf : dM cs with
 | false=>rw [hf] at hv'; cases hv'
 | true =>
  rw [hf] at hv'
  cases hv'
  obtain ⟨t,fz,hc⟩:=ρ.gl g cs hg
  exact VR.treeAt (c:=g) (o:=0) (off:=0) (u:=.agg cs) hc rfl (by simp [Value.cells]) fun j v v' h1 h2=>by
   have h1' : cs[j]? = some v:=h1
   rw [Nat.zero_add,h1'] at h2
   cases h2
   exact aGL (lK hf h1')
structure FRel (D : List Deferred) (ρ : Place) (tm : Tr Value) (n : Nat) (a : Act) : Prop where
 size : a.tmps.size = n
 defers : a.defers = D
 slot : ∀ t v,tm.get t = some v -> t < n /\ VR ρ v (a.tmps.getD t undef)
theorem FRel.mono {D : List Deferred} {ρ ρ' : Place} {tm : Tr Value} {n : Nat} {a : Act} (h : FRel D ρ tm n a) (hl : ρ.le ρ') : FRel D ρ' tm n a :=
 ⟨h.size,h.defers,fun t v hv=>⟨(h.slot t v hv).1,(h.slot t v hv).2.mono hl⟩⟩
theorem FRel.eval {D : List Deferred} {ρ : Place} {tm : Tr Value} {n : Nat} {a : Act} (h : FRel D ρ tm n a) {x : Operand} {v : Value} (hv : aev tm x = some v) : VR ρ v (a.eval x):=by
 cases x with
 | tmp t=>exact (h.slot t v hv).2
 | const u =>
  rw [aCM] at hv
  cases hc : dK u with
  | true=>rw [hc] at hv; cases hv; exact cJ hc
  | false=>rw [hc] at hv; cases hv
 | global g=>exact aIk hv a
 | func f=>cases hv; exact .func _ rfl (by simp) rfl (by simp)
theorem FRel.put {D : List Deferred} {ρ : Place} {tm : Tr Value} {n : Nat} {a : Act} (h : FRel D ρ tm n a) {d : Nat} {v v' : Value} (hd : d < n) (hv : VR ρ v v') : FRel D ρ (tm.put d (some v)) n (a.put (some d) v'):=by
 refine ⟨by simp [Act.put,h.size],h.defers,fun t u hu=>?_⟩
 rw [Tr.get_put] at hu
 by_cases ht : t = d
 ·subst ht
  rw [if_pos rfl] at hu
  cases hu
  exact ⟨hd,by simpa [Act.put,Array.getD_eq_getD_getElem?,h.size,hd] using hv⟩
 ·rw [if_neg ht] at hu
  have:=h.slot t u hu
  refine ⟨this.1,?_⟩
  simpa [Act.put,Array.getD_eq_getD_getElem?,Array.getElem?_setIfInBounds_ne (Ne.symm ht)] using this.2
def ERel (ρ : Place) (ev : Operand -> Option Value) (a : Act) : Prop:=∀ x v,ev x = some v -> VR ρ v (a.eval x)
theorem ERel.eval {ρ : Place} {ev : Operand -> Option Value} {a : Act} (h : ERel ρ ev a) {x : Operand} {v : Value} (hv : ev x = some v) : VR ρ v (a.eval x):=h x v hv
theorem FRel.ev {D : List Deferred} {ρ : Place} {tm : Tr Value} {n : Nat} {a : Act} (h : FRel D ρ tm n a) : ERel ρ (aev tm) a:=fun _ _ hv=>h.eval hv
theorem aL {P : Program} {α β : Type} {s : Sem α} {v : α} (h : aF P s = some v) (f : α -> Sem β) (w : World) : (s >>= f).run P w = (f v).run P w:=by
 induction s with
 | pure a=>have h' : some a = some v:=h; cases h'; rfl
 | program k ih=>exact ih P h
 | mark m k ih=>exact ih h
 | _=>exact nomatch (show (none : Option α) = some v from h)
theorem bE {P : Program} {α β : Type} {s : Sem α} {v : α} (h : aF P s = some v) (f : α -> Sem β) : aF P (s >>= f) = aF P (f v):=by
 induction s with
 | pure a=>have h' : some a = some v:=h; cases h'; rfl
 | program k ih=>exact ih P h
 | mark m k ih=>exact ih h
 | _=>exact nomatch (show (none : Option α) = some v from h)
def nX (ev : Operand -> Option Value) (xs : Array Operand) : Bool:=xs.all fun x=>match ev x with | some v=>dK v | none=>false
def aBl : Op -> Bool
 | .select ..=>true
 | _=>false
def iS (P : Program) (o : Oper) (ev : Operand -> Option Value) : Option Value :=
 bif nX ev o.op.operands && !aBl o.op then
  match aF P (execOp (fun x=>(ev x).getD undef) o) with
  | some (.value v)=>bif dK v then some v else none
  | _=>none
 else none
theorem vC {P : Program} {ρ : Place} {ev : Operand -> Option Value} {a : Act} (hF : ERel ρ ev a) {o : Oper} {v : Value} (h : iS P o ev = some v) (w : World) :
  ∃ v',(execOp a.eval o).run P w = .ok (.value v') w /\ VR ρ v v':=by
 unfold iS at h
 cases hc : nX ev o.op.operands && !aBl o.op with
 | false=>rw [hc] at h; cases h
 | true =>
  rw [hc,cond_true] at h
  simp only [Bool.and_eq_true] at hc
  obtain ⟨hc,hs⟩:=hc
  have he : execOp a.eval o = execOp (fun x=>(ev x).getD undef) o:=by
   refine execOp_congr o (fun cs b e=>by rw [e] at hs; cases hs) fun x hx=>?_
   have:=Array.all_eq_true_iff_forall_mem.1 hc x hx
   cases hv : ev x with
   | none=>rw [hv] at this; cases this
   | some u=>rw [hv] at this; exact rT this (hF.eval hv)
  rw [he]
  cases hr : aF P (execOp (fun x=>(ev x).getD undef) o) with
  | none=>rw [hr] at h; cases h
  | some nx =>
   rw [hr] at h
   cases nx <;> try cases h
   rename_i u
   cases hu : dK u with
   | false=>simp [hu] at h
   | true =>
    simp [hu] at h
    subst h
    exact ⟨u,fI hr w,cJ hu⟩
theorem VR.cells {ρ : Place} {v v' : Value} (h : VR ρ v v') : VRA ρ v.cells v'.cells:=by
 cases h with
 | agg hs hc=>exact ⟨hs,hc⟩
 | _ =>
  refine ⟨rfl,fun i u u' hu hu'=>?_⟩
  simp only [Value.cells] at hu hu'
  cases i with
  | zero =>
   simp at hu hu'
   subst hu hu'
   constructor <;> assumption
  | succ i=>simp at hu
def sD (P : Program) (t : TypeId) (cs : Array Value) (off : Nat) : Option Value :=
 match aF P (isAgg t) with
 | some true=>match aF P (sizeOf t) with
  | some z=>some (.agg (cs.extract off (off + z)))
  | none=>none
 | some false=>cs[off]?
 | none=>none
theorem rA {P : Program} {ρ : Place} {t : TypeId} {cs cs' : Array Value} {off : Nat} {v : Value} (hc : VRA ρ cs cs') (h : sD P t cs off = some v) (w : World) :
  ∃ v',(part t cs' off).run P w = .ok v' w /\ VR ρ v v':=by
 unfold sD at h
 unfold part
 cases hi : aF P (isAgg t) with
 | none=>rw [hi] at h; cases h
 | some b =>
  rw [aL hi]
  rw [hi] at h
  cases b with
  | true =>
   simp only [if_true]
   cases hz : aF P (sizeOf t) with
   | none=>rw [hz] at h; cases h
   | some z =>
    rw [hz] at h
    cases h
    rw [aL hz]
    refine ⟨_,rfl,.agg ?_ fun i u u' hu hu'=>?_⟩
    ·simp [hc.1]
    ·rw [Array.getElem?_extract] at hu hu'
     split at hu
     ·split at hu'
      ·exact hc.2 _ _ _ hu hu'
      ·cases hu'
     ·cases hu
  | false =>
   simp only [Bool.false_eq_true,if_false]
   have h' : cs[off]? = some v:=h
   obtain ⟨v',e,hv⟩:=hc.get h'
   rw [e]
   exact ⟨v',rfl,hv⟩
def aHk (P : Program) (t : TypeId) (x : Value) (f : Nat) : Option Value :=
 match x with
 | .agg cs=>match P.underlying t with
  | some (.struct fields)=>match fields[f]? with
   | some fd=>sD P fd.type cs fd.offset
   | none=>none
  | _=>none
 | _=>none
theorem aK {P : Program} {t : TypeId} {d : TypeDesc} (h : P.underlying t = some d) : aF P (underlying t) = some d:=by
 unfold underlying
 show aF P (match P.underlying t with | some d=>(pure d : Sem TypeDesc) | none=>stuck "no such type") = some d
 rw [h]
 rfl
theorem aDU {P : Program} {ρ : Place} {t : TypeId} {x x' : Value} {f : Nat} {v : Value} (hx : VR ρ x x') (h : aHk P t x f = some v) (w : World) :
  ∃ v',(Instr.field t x' f).run P w = .ok v' w /\ VR ρ v v':=by
 unfold aHk at h
 cases hx <;> simp only [reduceCtorEq] at h
 case agg cs cs' hs hc =>
  cases hu : P.underlying t with
  | none=>rw [hu] at h; cases h
  | some d =>
   rw [hu] at h
   cases d <;> simp only [reduceCtorEq] at h
   case struct fields =>
    cases hf : fields[f]? with
    | none=>rw [hf] at h; cases h
    | some fd =>
     rw [hf] at h
     unfold Instr.field
     rw [aL (aK hu)]
     simp only [hf]
     exact rA ⟨hs,hc⟩ h w
def aHU (P : Program) (t : TypeId) (x i : Value) : Option Value :=
 match x,i with
 | .agg cs,.int _ n=>match P.underlying t with
  | some (.array len elem)=>bif decide (0 <= n /\ n < len) then
    match aF P (sizeOf elem) with
    | some z=>sD P elem cs (n.toNat * z)
    | none=>none
   else none
  | _=>none
 | _,_=>none
theorem aEi {P : Program} {ρ : Place} {t : TypeId} {x x' i i' : Value} {v : Value} (hx : VR ρ x x') (hi : VR ρ i i') (h : aHU P t x i = some v) (w : World) :
  ∃ v',(Instr.index t x' i').run P w = .ok v' w /\ VR ρ v v':=by
 unfold aHU at h
 cases hx <;> try simp only [reduceCtorEq] at h
 case agg cs cs' hs hc =>
  cases hi <;> try simp only [reduceCtorEq] at h
  case int k n =>
   cases hu : P.underlying t with
   | none=>rw [hu] at h; cases h
   | some d =>
    rw [hu] at h
    cases d <;> simp only [reduceCtorEq] at h
    case array len elem =>
     cases hb : decide (0 <= n /\ n < (len : Int)) with
     | false=>rw [hb] at h; cases h
     | true =>
      rw [hb,cond_true] at h
      have hb':=of_decide_eq_true hb
      cases hz : aF P (sizeOf elem) with
      | none=>rw [hz] at h; cases h
      | some z =>
       rw [hz] at h
       unfold Instr.index
       show ∃ v',((underlying t) >>= _).run P w = _ /\ _
       rw [aL (aK hu)]
       dsimp only
       rw [if_pos hb',aL hz]
       exact rA ⟨hs,hc⟩ h w
inductive Parts (ρ : Place) : List (Nat × Value) -> List (Nat × Value) -> Prop where
 | nil : Parts ρ [] []
 | cons (i : Nat) {v v' : Value} {l l' : List (Nat × Value)} : VR ρ v v' -> Parts ρ l l' -> Parts ρ ((i,v) :: l) ((i,v') :: l')
theorem VRA.set {ρ : Place} {c c' : Array Value} (h : VRA ρ c c') (i : Nat) {v v' : Value} (hv : VR ρ v v') : VRA ρ (c.setIfInBounds i v) (c'.setIfInBounds i v'):=by
 refine ⟨by simp [h.1],fun j u u' hu hu'=>?_⟩
 rw [Array.getElem?_setIfInBounds] at hu hu'
 by_cases hij : i = j
 ·rw [if_pos hij] at hu hu'
  split at hu
  ·split at hu'
   ·cases hu; cases hu'; exact hv
   ·cases hu'
  ·cases hu
 ·rw [if_neg hij] at hu hu'
  exact h.2 j u u' hu hu'
theorem qH {ρ : Place} (off : Nat) : ∀ (l l' : List (Value × Nat)) (c c' : Array Value),l.length = l'.length -> (∀ k : Nat,∀ x x',l[k]? = some x -> l'[k]? = some x' -> VR ρ x.1 x'.1 /\ x.2 = x'.2) -> VRA ρ c c' ->
  VRA ρ (l.foldl (fun cs (p : Value × Nat)=>cs.setIfInBounds (off + p.2) p.1) c) (l'.foldl (fun cs (p : Value × Nat)=>cs.setIfInBounds (off + p.2) p.1) c')
 | [],[],_,_,_,_,h=>h
 | [],_ :: _,_,_,hl,_,_=>by simp at hl
 | _ :: _,[],_,_,hl,_,_=>by simp at hl
 | (v,j) :: l,(v',j') :: l',c,c',hl,hx,h=>by
  have h0:=hx 0 (v,j) (v',j') rfl rfl
  have hj : j = j':=h0.2
  subst hj
  simp only [List.foldl_cons]
  exact qH off l l' _ _ (by simpa using hl) (fun k x x' a b=>hx (k + 1) x x' a b) (h.set _ h0.1)
theorem aJI {ρ : Place} (off : Nat) {d d' c c' : Array Value} (hd : VRA ρ d d') (hc : VRA ρ c c') :
  VRA ρ (d.zipIdx.foldl (fun cs (x,j)=>cs.setIfInBounds (off + j) x) c) (d'.zipIdx.foldl (fun cs (x,j)=>cs.setIfInBounds (off + j) x) c'):=by
 rw [← Array.foldl_toList,← Array.foldl_toList,Array.toList_zipIdx,Array.toList_zipIdx]
 refine qH off _ _ c c' (by simp [hd.1]) (fun k x x' hx hx'=>?_) hc
 simp only [List.getElem?_zipIdx,Option.map_eq_some_iff] at hx hx'
 obtain ⟨v,hv,rfl⟩:=hx
 obtain ⟨v',hv',rfl⟩:=hx'
 exact ⟨hd.2 k v v' (by simpa using hv) (by simpa using hv'),rfl⟩
theorem aAp {ρ : Place} (place : Nat -> Option (Nat × Nat)) : ∀ {l l' : List (Nat × Value)} {c c' r : Array Value},Parts ρ l l' -> VRA ρ c c' -> Instr.fill place c l = some r ->
  ∃ r',Instr.fill place c' l' = some r' /\ VRA ρ r r':=by
 intro l l' c c' r hp
 induction hp generalizing c c' with
 | nil=>intro hc h; simp only [Instr.fill] at h; cases h; exact ⟨c',rfl,hc⟩
 | cons i hv _ ih =>
  intro hc h
  simp only [Instr.fill] at h ⊢
  cases hpl : place i with
  | none=>rw [hpl] at h; cases h
  | some oz =>
   obtain ⟨off,size⟩:=oz
   rw [hpl] at h
   simp only at h ⊢
   have hcl:=hv.cells
   rw [← hcl.1,← hc.1]
   split at h
   ·cases h
   ·rename_i hn
    rw [if_neg hn]
    exact ih (aJI off hcl hc) h
def aGP (P : Program) (t : TypeId) (ps : List (Nat × Value)) : Option Value :=
 match aF P (zeroValue t),P.underlying t with
 | some z,some (.struct fields)=>bif dM z.cells then
   match aF P (fields.mapM fun f=>do pure (f.offset,← sizeOf f.type)) with
   | some places=>(Instr.fill (places[·]?) z.cells ps).map .agg
   | none=>none
  else none
 | some z,some (.array _ elem)=>bif dM z.cells then
   match aF P (sizeOf elem) with
   | some size=>(Instr.fill (fun i=>some (i * size,size)) z.cells ps).map .agg
   | none=>none
  else none
 | _,_=>none
theorem kA {ρ : Place} {c : Array Value} (h : dM c = true) : VRA ρ c c:=⟨rfl,aB0 (fun _=>oB) h⟩
theorem aE2 {P : Program} {ρ : Place} {t : TypeId} {ps ps' : List (Nat × Value)} {v : Value} (hp : Parts ρ ps ps') (h : aGP P t ps = some v) (w : World) :
  ∃ v',(Instr.build t ps'.toArray).run P w = .ok v' w /\ VR ρ v v':=by
 unfold aGP at h
 unfold Instr.build
 cases hz : aF P (zeroValue t) with
 | none=>rw [hz] at h; cases h
 | some z =>
  rw [hz] at h
  rw [aL hz]
  cases hu : P.underlying t with
  | none=>rw [hu] at h; cases h
  | some d =>
   rw [hu] at h
   dsimp only
   rw [aL (aK hu)]
   cases d <;> simp only [reduceCtorEq] at h
   case struct fields =>
    cases hf : dM z.cells with
    | false=>rw [hf] at h; cases h
    | true =>
     rw [hf,cond_true] at h
     cases hpl : aF P (fields.mapM fun f=>do pure (f.offset,← sizeOf f.type)) with
     | none=>rw [hpl] at h; cases h
     | some places =>
      rw [hpl] at h
      simp only [Option.map_eq_some_iff] at h
      obtain ⟨r,hr,rfl⟩:=h
      obtain ⟨r',e,hv⟩:=aAp _ hp (kA hf) hr
      dsimp only
      rw [aL hpl]
      simp only [e]
      exact ⟨_,rfl,.agg hv.1 hv.2⟩
   case array len elem =>
    cases hf : dM z.cells with
    | false=>rw [hf] at h; cases h
    | true =>
     rw [hf,cond_true] at h
     cases hpl : aF P (sizeOf elem) with
     | none=>rw [hpl] at h; cases h
     | some size =>
      rw [hpl] at h
      simp only [Option.map_eq_some_iff] at h
      obtain ⟨r,hr,rfl⟩:=h
      obtain ⟨r',e,hv⟩:=aAp _ hp (kA hf) hr
      dsimp only
      rw [aL hpl]
      simp only [e]
      exact ⟨_,rfl,.agg hv.1 hv.2⟩
end Go.Proofs.YtngginofamlkkaaGreatDoor

noncomputable section
namespace Go.Proofs.YtngginofamlkkaaGreatDoor
open Go
theorem gP (c s o k : Nat) : (⟨c,s + o,none⟩ : Addr).add k = ⟨c,s + (o + k),none⟩:=by
 unfold Addr.add
 split
 ·rename_i h; subst h; rfl
 ·simp [Nat.add_assoc]
def jT (P : Program) (t : TypeId) (x : Value) (f : Nat) : Option Value :=
 match x with
 | .pointer (some ⟨b,o,none⟩)=>match P.underlying t with
  | some (.struct fields)=>match fields[f]? with
   | some fd=>match aF P (sizeOf fd.type) with
    | some (_ + 1)=>some (.pointer (some ⟨b,o + fd.offset,none⟩))
    | _=>none
   | none=>none
  | _=>none
 | _=>none
theorem wA {P : Program} {ρ : Place} {t : TypeId} {x x' : Value} {f : Nat} {v : Value} (hx : VR ρ x x') (h : jT P t x f = some v) (w : World) :
  ∃ v',(Instr.fieldAt t x' f).run P w = .ok v' w /\ VR ρ v v':=by
 unfold jT at h
 cases hx <;> try simp only [reduceCtorEq] at h
 case ptr b o c s z hb =>
  cases hu : P.underlying t with
  | none=>rw [hu] at h; cases h
  | some d =>
   rw [hu] at h
   cases d <;> simp only [reduceCtorEq] at h
   case struct fields =>
    cases hf : fields[f]? with
    | none=>rw [hf] at h; cases h
    | some fd =>
     rw [hf] at h
     dsimp only at h
     unfold Instr.fieldAt
     rw [aL (aK hu)]
     simp only [hf]
     cases hz : aF P (sizeOf fd.type) with
     | none=>rw [hz] at h; cases h
     | some n =>
      rw [hz] at h
      cases n with
      | zero=>cases h
      | succ n =>
       cases h
       show ∃ v',((fieldPlace ⟨c,s + o,none⟩ fd) >>= _).run P w = _ /\ _
       have : aF P (fieldPlace ⟨c,s + o,none⟩ fd) = some ((⟨c,s + o,none⟩ : Addr).add fd.offset):=by
        unfold fieldPlace
        have e : ∀ (β : Type) (g : Nat -> Sem β),aF P (sizeOf fd.type >>= g) = aF P (g (n + 1)):=by
         intro β g
         exact bE hz g
        rw [e]
        simp only [Nat.succ_ne_zero,if_false]
        rfl
       rw [aL this]
       refine ⟨_,rfl,?_⟩
       rw [gP]
       exact .ptr hb
def mF (P : Program) (t : TypeId) (x i : Value) : Option Value :=
 match i with
 | .int _ n=>match P.underlying t,x with
  | some (.array len elem),.pointer (some ⟨b,o,none⟩)=>bif decide (0 <= n /\ n < len) then
    match aF P (sizeOf elem) with
    | some z=>some (.pointer (some ⟨b,o + n.toNat * z,none⟩))
    | none=>none
   else none
  | some (.slice elem),.slice (some ⟨b,o,none⟩) len _=>bif decide (0 <= n /\ n < len) then
    match aF P (sizeOf elem) with
    | some z=>some (.pointer (some ⟨b,o + n.toNat * z,none⟩))
    | none=>none
   else none
  | _,_=>none
 | _=>none
theorem jY {P : Program} {ρ : Place} {t : TypeId} {x x' i i' : Value} {v : Value} (hx : VR ρ x x') (hi : VR ρ i i') (h : mF P t x i = some v) (w : World) :
  ∃ v',(Instr.indexAt t x' i').run P w = .ok v' w /\ VR ρ v v':=by
 unfold mF at h
 cases hi <;> try simp only [reduceCtorEq] at h
 case int k n =>
  cases hu : P.underlying t with
  | none=>rw [hu] at h; cases h
  | some d =>
   rw [hu] at h
   unfold Instr.indexAt
   cases d <;> try simp only [reduceCtorEq] at h
   case array len elem =>
    cases hx <;> try simp only [reduceCtorEq] at h
    case ptr b o c s z hb =>
     cases hd : decide (0 <= n /\ n < (len : Int)) with
     | false=>rw [hd] at h; cases h
     | true =>
      rw [hd,cond_true] at h
      have hd':=of_decide_eq_true hd
      cases hz : aF P (sizeOf elem) with
      | none=>rw [hz] at h; cases h
      | some m =>
       rw [hz] at h
       cases h
       show ∃ v',((underlying t) >>= _).run P w = _ /\ _
       rw [aL (aK hu)]
       show ∃ v',((underlying t) >>= _).run P w = _ /\ _
       rw [aL (aK hu)]
       dsimp only
       rw [if_pos hd',aL hz]
       refine ⟨_,rfl,?_⟩
       rw [gP]
       exact .ptr hb
   case slice elem =>
    cases hx <;> try simp only [reduceCtorEq] at h
    case slice b o len sz c s z cap hb h1 h2 =>
     cases hd : decide (0 <= n /\ n < (len : Int)) with
     | false=>rw [hd] at h; cases h
     | true =>
      rw [hd,cond_true] at h
      have hd':=of_decide_eq_true hd
      cases hz : aF P (sizeOf elem) with
      | none=>rw [hz] at h; cases h
      | some m =>
       rw [hz] at h
       cases h
       show ∃ v',((underlying t) >>= _).run P w = _ /\ _
       rw [aL (aK hu)]
       show ∃ v',((underlying t) >>= _).run P w = _ /\ _
       rw [aL (aK hu)]
       dsimp only
       rw [if_pos hd',aL hz]
       refine ⟨_,rfl,?_⟩
       rw [gP]
       exact .ptr hb
    case emptySlice b o y a' sz hb =>
     exfalso
     revert h
     have : decide (0 <= n /\ n < ((0 : Nat) : Int)) = false:=by simp
     rw [this]
     simp
def gA (ev : Operand -> Option Value) (dflt : Nat) : Option Operand -> Option Nat
 | none=>some dflt
 | some x=>match ev x with
  | some (.int _ n)=>bif decide (0 <= n) then some n.toNat else none
  | _=>none
def xP (P : Program) (ev : Operand -> Option Value) (t : TypeId) (x : Value) (lo hi : Option Operand) : Option Value :=
 match P.underlying t,x with
 | some (.slice elem),.slice (some ⟨b,o,none⟩) len sz =>
  match aF P (sizeOf elem),gA ev len hi,gA ev 0 lo with
  | some z,some h,some l=>bif (z.beq sz && h.ble len && l.ble h) then some (.slice (some ⟨b,o + l * sz,none⟩) (h - l) sz) else none
  | _,_,_=>none
 | _,_=>none
theorem pK {P : Program} {ρ : Place} {ev : Operand -> Option Value} {a : Act} (hF : ERel ρ ev a) {d : Nat} {x : Operand} {k y : Nat} {code : BoundsCode} (h : gA ev d (some x) = some k) (hy : k <= y) :
  aF P (Instr.sliceBound (a.eval x) y code) = some k:=by
 simp only [gA] at h
 cases hv : ev x with
 | none=>rw [hv] at h; cases h
 | some v =>
  rw [hv] at h
  have:=hF.eval hv
  generalize he : a.eval x = e at this
  cases this <;> try simp only [reduceCtorEq] at h
  rename_i kd m
  cases hd : decide (0 <= m) with
  | false=>rw [hd] at h; cases h
  | true =>
   rw [hd,cond_true] at h
   cases h
   have h0:=of_decide_eq_true hd
   unfold Instr.sliceBound
   show aF P (if 0 <= m /\ m <= (y : Int) then _ else _) = _
   rw [if_pos ⟨h0,by omega⟩]
   rfl
theorem aE7 {P : Program} {ρ : Place} {ev : Operand -> Option Value} {a : Act} (hF : ERel ρ ev a) {t : TypeId} {x x' : Value} {lo hi : Option Operand} {v : Value} (hx : VR ρ x x')
  (h : xP P ev t x lo hi = some v) (w : World) :
  ∃ v',(Instr.sliceAt t x' (lo.map a.eval) (hi.map a.eval) none).run P w = .ok v' w /\ VR ρ v v':=by
 unfold xP at h
 cases hu : P.underlying t with
 | none=>rw [hu] at h; cases h
 | some d =>
  rw [hu] at h
  cases d <;> try simp only [reduceCtorEq] at h
  case slice elem =>
   have key : ∀ (b o len sz : Nat) (A : Addr) (cap : Nat),len <= cap ->
     (∀ l h',l <= h' -> h' <= len -> VR ρ (.slice (some ⟨b,o + l * sz,none⟩) (h' - l) sz) (.slice (if cap = l then some A else some (A.add (l * sz))) (h' - l) (cap - l))) ->
     (match aF P (sizeOf elem),gA ev len hi,gA ev 0 lo with
      | some z,some h,some l=>bif (z.beq sz && h.ble len && l.ble h) then some (.slice (some ⟨b,o + l * sz,none⟩) (h - l) sz) else none
      | _,_,_=>none) = some v ->
     ∃ v',(Instr.sliceAt t (.slice (some A) len cap) (lo.map a.eval) (hi.map a.eval) none).run P w = .ok v' w /\ VR ρ v v':=by
    intro b o len sz A cap hlc hV hh
    cases hz : aF P (sizeOf elem) with
    | none=>rw [hz] at hh; simp at hh
    | some z =>
     cases hhi : gA ev len hi with
     | none=>rw [hz,hhi] at hh; simp at hh
     | some h' =>
      cases hlo : gA ev 0 lo with
      | none=>rw [hz,hhi,hlo] at hh; simp at hh
      | some l =>
       rw [hz,hhi,hlo] at hh
       simp only at hh
       cases hc : (z.beq sz && h'.ble len && l.ble h') with
       | false=>rw [hc] at hh; cases hh
       | true =>
        rw [hc,cond_true] at hh
        cases hh
        simp only [Bool.and_eq_true] at hc
        obtain ⟨⟨hz1,hl1⟩,hl2⟩:=hc
        have hz1:=Nat.eq_of_beq_eq_true hz1
        have hl1:=Nat.le_of_ble_eq_true hl1
        have hl2:=Nat.le_of_ble_eq_true hl2
        subst hz1
        have hb : aF P (Instr.sliceBounds true len cap (lo.map a.eval) (hi.map a.eval) none) = some (l,h',cap):=by
         unfold Instr.sliceBounds
         cases hi with
         | none =>
          simp only [gA] at hhi
          cases hhi
          cases lo with
          | none=>simp only [gA] at hlo; cases hlo; rfl
          | some y =>
           show aF P (Instr.sliceBound (a.eval y) _ _ >>= _) = _
           rw [bE (pK hF hlo hl2)]
           rfl
         | some x =>
          show aF P (Instr.sliceBound (a.eval x) _ _ >>= _) = _
          rw [bE (pK hF hhi (by omega))]
          cases lo with
          | none=>simp only [gA] at hlo; cases hlo; rfl
          | some y =>
           show aF P (Instr.sliceBound (a.eval y) _ _ >>= _) = _
           rw [bE (pK hF hlo hl2)]
           rfl
        unfold Instr.sliceAt
        rw [aL (aK hu)]
        dsimp only
        unfold Instr.slice
        rw [aL (aK hu)]
        dsimp only
        rw [aL hb]
        dsimp only
        rw [aL hz]
        refine ⟨_,rfl,?_⟩
        exact hV l h' hl2 hl1
   cases hx <;> try simp only [reduceCtorEq] at h
   case slice b o len sz c s z cap hb h1 h2 =>
    refine key b o len sz ⟨c,s + o,none⟩ cap h1 ?_ h
    intro l h' hl hh
    by_cases hcl : cap = l
    ·rw [if_pos hcl]
     have e1 : h' - l = 0:=by omega
     have e2 : cap - l = 0:=by omega
     rw [e1,e2]
     exact .emptySlice _ hb
    ·rw [if_neg hcl,gP]
     refine .slice hb (by omega) ?_
     have : s + (o + l * sz) + (cap - l) * sz = s + o + cap * sz:=by
      have : cap * sz = l * sz + (cap - l) * sz:=by rw [← Nat.add_mul]; congr 1; omega
      omega
     omega
   case emptySlice b o y a' sz hb =>
    refine key b o 0 sz a' 0 (Nat.le_refl _) ?_ h
    intro l h' hl hh
    have : l = 0:=by omega
    have h2 : h' = 0:=by omega
    subst this h2
    exact .emptySlice _ hb
end Go.Proofs.YtngginofamlkkaaGreatDoor

noncomputable section
namespace Go.Proofs.YtngginofamlkkaaGreatDoor
open Go
inductive VRL (ρ : Place) : List Value -> List Value -> Prop where
 | nil : VRL ρ [] []
 | cons {v v' : Value} {l l' : List Value} : VR ρ v v' -> VRL ρ l l' -> VRL ρ (v :: l) (v' :: l')
theorem VRL.mono {ρ ρ' : Place} (h : ρ.le ρ') {l l' : List Value} (hl : VRL ρ l l') : VRL ρ' l l':=by
 induction hl with
 | nil=>exact .nil
 | cons hv _ ih=>exact .cons (hv.mono h) ih
theorem VRL.len {ρ : Place} {l l' : List Value} (hl : VRL ρ l l') : l.length = l'.length:=by
 induction hl with
 | nil=>rfl
 | cons _ _ ih=>simp [ih]
theorem VRL.get {ρ : Place} {l l' : List Value} (hl : VRL ρ l l') : ∀ {i : Nat} {v v' : Value},l[i]? = some v -> l'[i]? = some v' -> VR ρ v v':=by
 induction hl with
 | nil=>intro i v v' h; simp at h
 | cons hv _ ih =>
  intro i v v' h h'
  cases i with
  | zero=>simp at h h'; subst h h'; exact hv
  | succ i=>exact ih (by simpa using h) (by simpa using h')
theorem VRL.arr {ρ : Place} {l l' : List Value} (hl : VRL ρ l l') : VRA ρ l.toArray l'.toArray :=
 ⟨by simp [hl.len],fun i v v' h h'=>hl.get (by simpa using h) (by simpa using h')⟩
theorem VRL.of {ρ : Place} : ∀ {l l' : List Value},l.length = l'.length -> (∀ (i : Nat) (v v' : Value),l[i]? = some v -> l'[i]? = some v' -> VR ρ v v') -> VRL ρ l l'
 | [],[],_,_=>.nil
 | [],_ :: _,h,_=>by simp at h
 | _ :: _,[],h,_=>by simp at h
 | v :: l,v' :: l',h,hv=>.cons (hv 0 v v' rfl rfl) (VRL.of (by simpa using h) fun i u u' a b=>hv (i + 1) u u' a b)
theorem VRA.list {ρ : Place} {c c' : Array Value} (h : VRA ρ c c') : VRL ρ c.toList c'.toList :=
 .of (by simp [h.1]) fun i v v' a b=>h.2 i v v' (by simpa using a) (by simpa using b)
theorem VRL.append {ρ : Place} {l l' m m' : List Value} (hl : VRL ρ l l') (hm : VRL ρ m m') : VRL ρ (l ++ m) (l' ++ m'):=by
 induction hl with
 | nil=>exact hm
 | cons hv _ ih=>exact .cons hv ih
def evL (ev : Operand -> Option Value) : List Operand -> Option (List Value)
 | []=>some []
 | x :: l=>match ev x with
  | some v=>match evL ev l with
   | some vs=>some (v :: vs)
   | none=>none
  | none=>none
theorem fB {ρ : Place} {ev : Operand -> Option Value} {a : Act} (hF : ERel ρ ev a) : ∀ {l : List Operand} {vs : List Value},evL ev l = some vs -> VRL ρ vs (l.map a.eval)
 | [],vs,h=>by simp only [evL] at h; cases h; exact .nil
 | x :: l,vs,h=>by
  simp only [evL] at h
  cases hv : ev x with
  | none=>rw [hv] at h; cases h
  | some v =>
   rw [hv] at h
   cases hl : evL ev l with
   | none=>rw [hl] at h; cases h
   | some us=>rw [hl] at h; cases h; exact .cons (hF.eval hv) (fB hF hl)
def evP (ev : Operand -> Option Value) : List (Nat × Operand) -> Option (List (Nat × Value))
 | []=>some []
 | (i,x) :: l=>match ev x with
  | some v=>match evP ev l with
   | some vs=>some ((i,v) :: vs)
   | none=>none
  | none=>none
theorem wX {ρ : Place} {ev : Operand -> Option Value} {a : Act} (hF : ERel ρ ev a) : ∀ {l : List (Nat × Operand)} {vs : List (Nat × Value)},evP ev l = some vs -> Parts ρ vs (l.map fun p=>(p.1,a.eval p.2))
 | [],vs,h=>by simp only [evP] at h; cases h; exact .nil
 | (i,x) :: l,vs,h=>by
  simp only [evP] at h
  cases hv : ev x with
  | none=>rw [hv] at h; cases h
  | some v =>
   rw [hv] at h
   cases hl : evP ev l with
   | none=>rw [hl] at h; cases h
   | some us=>rw [hl] at h; cases h; exact .cons i (hF.eval hv) (wX hF hl)
def rZ (b : Bool) : BinOp -> Option Value
 | .eql=>some (.bool b)
 | .neq=>some (.bool (!b))
 | _=>none
def aEq (P : Program) (op : BinOp) (t : TypeId) (x y : Value) : Option Value :=
 match x,y with
 | .pointer (some _),.pointer none | .pointer none,.pointer (some _)=>match P.underlying t with
  | some (.pointer _)=>rZ false op
  | _=>none
 | .slice (some _) _ _,.slice none _ _ | .slice none _ _,.slice (some _) _ _=>match P.underlying t with
  | some (.slice _)=>rZ false op
  | _=>none
 | .func (.func _) _ _,.nilFunc | .nilFunc,.func (.func _) _ _=>match P.underlying t with
  | some (.func _ _ _)=>rZ false op
  | _=>none
 | .iface _ _,.nilIface | .nilIface,.iface _ _=>match P.underlying t with
  | some (.interface _)=>rZ false op
  | _=>none
 | _,_=>none
theorem aF9 {P : Program} {op : BinOp} {t : TypeId} {x y : Operand} {X Y : Value} {b : Bool} {v : Value} (h : rZ b op = some v)
  (hg : ∀ op,aF P (eqGuard op t x y X Y) = some ()) (he : aF P (Op.equal t X Y) = some b)
  (hb : ∀ op,(op = .eql -> binOp op t X Y = do pure (.bool (← Op.equal t X Y))) /\ (op = .neq -> binOp op t X Y = do pure (.bool (!(← Op.equal t X Y))))) (w : World) :
  ((do eqGuard op t x y X Y; binOp op t X Y) >>= fun r=>pure (Next.value r)).run P w = .ok (.value v) w:=by
 have : aF P (do eqGuard op t x y X Y; binOp op t X Y) = some v:=by
  rw [bE (hg op)]
  cases op <;> simp only [rZ,reduceCtorEq,Option.some.injEq] at h
  case eql=>rw [(hb .eql).1 rfl,bE he,← h]; rfl
  case neq=>rw [(hb .neq).2 rfl,bE he,← h]; rfl
 rw [aL this]
 rfl
theorem eqS {P : Program} {t : TypeId} {X Y : Value} {b : Bool} {d : TypeDesc} {g : Nat -> TypeDesc -> Sem Bool} (hd : P.underlying t = some d) (n : Nat) (he : ∀ n,Op.equalIn (n + 1) t X Y = underlying t >>= g n)
  (hg : aF P (g n d) = some b) : aF P (Op.equalIn (n + 1) t X Y) = some b:=by
 rw [he,bE (aK hd)]
 exact hg
theorem aCz {P : Program} {ρ : Place} {op : BinOp} {t : TypeId} {x y : Operand} {u u' z z' v : Value} (hu : VR ρ u u') (hz : VR ρ z z') (h : aEq P op t u z = some v) (w : World) :
  ((do eqGuard op t x y u' z'; binOp op t u' z') >>= fun r=>pure (Next.value r)).run P w = .ok (.value v) w:=by
 unfold aEq at h
 have eqI : ∀ X Y,Op.equal t X Y = Op.equalIn (9999 + 1) t X Y:=fun _ _=>rfl
 split at h
 all_goals first
  | (cases hd : P.underlying t with
   | none=>rw [hd] at h; cases h
   | some d =>
    rw [hd] at h
    cases d <;> try (simp only [reduceCtorEq] at h)
    cases hu <;> cases hz <;>
    exact aF9 h (fun op=>by cases op <;> rfl) ((congrArg (aF P) (eqI _ _)).trans (eqS hd 9999 (by intro d; simp only [Op.equalIn]; rfl) rfl)) (fun op=>⟨fun e=>by subst e; rfl,fun e=>by subst e; rfl⟩) w)
  | cases h
end Go.Proofs.YtngginofamlkkaaGreatDoor

noncomputable section
namespace Go.Proofs.YtngginofamlkkaaGreatDoor
open Go
def aJH (P : Program) (c : Call) (ev : Operand -> Option Value) : Option Value :=
 match c.callee,c.argTypes[0]?,c.args[0]? with
 | .builtin .len,some t,some x=>match ev x with
  | some (.slice _ n _)=>match P.underlying t with
   | some (.slice _)=>some (goInt n)
   | _=>none
  | _=>none
 | _,_,_=>none
def aC5 : Int -> Option Value
 | .ofNat m=>bif Nat.blt m 9223372036854775808 then some (.int .i64 (.ofNat m)) else none
 | .negSucc m=>bif Nat.blt m 9223372036854775808 then some (.int .i64 (.negSucc m)) else none
def ilt : Int -> Int -> Bool
 | .ofNat m,.ofNat n=>Nat.blt m n
 | .ofNat _,.negSucc _=>false
 | .negSucc _,.ofNat _=>true
 | .negSucc m,.negSucc n=>Nat.blt n m
def ieq : Int -> Int -> Bool
 | .ofNat m,.ofNat n=>Nat.beq m n
 | .negSucc m,.negSucc n=>Nat.beq m n
 | _,_=>false
theorem zW {n : Int} {v : Value} (h : aC5 n = some v) : v = .int .i64 (IntKind.i64.wrap n):=by
 have key : ∀ n : Int,-9223372036854775808 <= n -> n < 9223372036854775808 -> IntKind.i64.wrap n = n:=by
  intro n h1 h2
  have e : IntKind.i64.wrap n = if (n % 18446744073709551616 : Int) >= 9223372036854775808 then n % 18446744073709551616 - 18446744073709551616 else n % 18446744073709551616:=by
   unfold IntKind.wrap
   simp [IntKind.signed,IntKind.bits]
  rw [e]
  split <;> omega
 cases n with
 | ofNat m =>
  simp only [aC5] at h
  cases hb : Nat.blt m 9223372036854775808 with
  | false=>rw [hb] at h; cases h
  | true =>
   rw [hb] at h
   cases h
   have : m < 9223372036854775808:=Nat.le_of_ble_eq_true hb
   rw [key _ (by show (-9223372036854775808 : Int) <= (m : Int); omega) (by show (m : Int) < 9223372036854775808; omega)]
 | negSucc m =>
  simp only [aC5] at h
  cases hb : Nat.blt m 9223372036854775808 with
  | false=>rw [hb] at h; cases h
  | true =>
   rw [hb] at h
   cases h
   have : m < 9223372036854775808:=Nat.le_of_ble_eq_true hb
   rw [key _ (by omega) (by omega)]
theorem aDL (a b : Int) : ilt a b = decide (a < b):=by
 cases a <;> cases b <;> simp only [ilt]
 ·rw [Bool.eq_iff_iff]; simp [Nat.blt_eq]
 ·symm; simp; omega
 ·symm; simp; omega
 ·rw [Bool.eq_iff_iff]; simp [Nat.blt_eq]; omega
theorem aO1 (a b : Int) : ieq a b = (a == b):=by
 cases a <;> cases b <;> simp only [ieq]
 ·rw [Bool.eq_iff_iff]; simp; omega
 ·symm; simp
 ·symm; simp
 ·rw [Bool.eq_iff_iff]; simp
def fbin (op : BinOp) : Value -> Value -> Option Value
 | .int .i64 a,.int .i64 b=>match op with
  | .add=>aC5 (a + b)
  | .sub=>aC5 (a - b)
  | .mul=>aC5 (a * b)
  | .eql=>some (.bool (ieq a b))
  | .neq=>some (.bool (!ieq a b))
  | .lss=>some (.bool (ilt a b))
  | .leq=>some (.bool (!ilt b a))
  | .gtr=>some (.bool (ilt b a))
  | .geq=>some (.bool (!ilt a b))
  | _=>none
 | _,_=>none
theorem aHX {P : Program} {op : BinOp} {t : TypeId} {x y : Operand} {u z v : Value} (h : fbin op u z = some v) (w : World) :
  ((do eqGuard op t x y u z; binOp op t u z) >>= fun r=>pure (Next.value r)).run P w = .ok (.value v) w /\ dK v = true /\ flat u = true /\ flat z = true:=by
 unfold fbin at h
 split at h
 case h_2=>cases h
 rename_i a b
 have main : ∀ s : Sem Value,binOp op t (.int .i64 a) (.int .i64 b) = s -> aF P s = some v -> ((do eqGuard op t x y (.int .i64 a) (.int .i64 b); binOp op t (.int .i64 a) (.int .i64 b)) >>= fun r=>pure (Next.value r)).run P w = .ok (.value v) w:=by
  intro s hs hp
  have hg : aF P (eqGuard op t x y (.int .i64 a) (.int .i64 b)) = some ():=by cases op <;> rfl
  have : aF P (do eqGuard op t x y (.int .i64 a) (.int .i64 b); binOp op t (.int .i64 a) (.int .i64 b)) = some v:=by rw [bE hg,hs]; exact hp
  rw [aL this]
  rfl
 cases op <;> simp only [reduceCtorEq,Option.some.injEq] at h
 case add=>have e:=zW h; subst e; exact ⟨main _ rfl rfl,rfl,rfl,rfl⟩
 case sub=>have e:=zW h; subst e; exact ⟨main _ rfl rfl,rfl,rfl,rfl⟩
 case mul=>have e:=zW h; subst e; exact ⟨main _ rfl rfl,rfl,rfl,rfl⟩
 case eql=>subst h; exact ⟨main _ rfl (by rw [aO1]; rfl),rfl,rfl,rfl⟩
 case neq=>subst h; exact ⟨main _ rfl (by rw [aO1]; rfl),rfl,rfl,rfl⟩
 case lss=>subst h; exact ⟨main _ rfl (by rw [aDL]; rfl),rfl,rfl,rfl⟩
 case leq=>subst h; exact ⟨main _ rfl (by rw [aDL,show (!decide (b < a)) = decide (a <= b) by rw [Bool.eq_iff_iff]; simp]; rfl),rfl,rfl,rfl⟩
 case gtr=>subst h; exact ⟨main _ rfl (by rw [aDL]; rfl),rfl,rfl,rfl⟩
 case geq=>subst h; exact ⟨main _ rfl (by rw [aDL,show (!decide (a < b)) = decide (a >= b) by rw [Bool.eq_iff_iff]; simp]; rfl),rfl,rfl,rfl⟩
def mS (P : Program) (o : Oper) (ev : Operand -> Option Value) : Option Value :=
 match o.op with
 | .move x | .assign x=>ev x
 | .pick c x y=>match ev c with
  | some (.bool true)=>ev x
  | some (.bool false)=>ev y
  | _=>none
 | .nilCheck x=>match ev x with
  | some (.pointer (some a))=>some (.pointer (some a))
  | _=>iS P o ev
 | .field t x f=>match ev x with
  | some v=>aHk P t v f
  | none=>none
 | .index t x i=>match ev x,ev i with
  | some (.agg c),some j=>aHU P t (.agg c) j
  | _,_=>iS P o ev
 | .extract x i=>match ev x with
  | some (.tuple vs)=>vs[i]?
  | _=>none
 | .build t ps=>match evP ev ps.toList with
  | some l=>aGP P t l
  | none=>none
 | .fieldAddr t x f=>match ev x with
  | some v=>jT P t v f
  | none=>none
 | .indexAddr t x i=>match ev x,ev i with
  | some v,some j=>mF P t v j
  | _,_=>none
 | .slice t x lo hi none=>match ev x with
  | some (.slice (some a) n c)=>xP P ev t (.slice (some a) n c) lo hi
  | _=>iS P o ev
 | .makeFunc (.func k) f c=>match evL ev f.toList,evL ev c.toList with
  | some f',some c'=>some (.func (.func k) f'.toArray c'.toArray)
  | _,_=>none
 | .makeInterface t x=>match P.underlying t with
  | some (.interface _)=>none
  | some _=>(ev x).map (.iface t)
  | none=>none
 | .call c=>match aJH P c ev with
  | some v=>some v
  | none=>iS P o ev
 | .binOp op t x y _=>match ev x,ev y with
  | some v,some u=>match fbin op v u with
   | some r=>some r
   | none=>match aEq P op t v u with
    | some b=>some b
    | none=>iS P o ev
  | _,_=>none
 | _=>iS P o ev
theorem aH2 {P : Program} {ρ : Place} {ev : Operand -> Option Value} {a : Act} (hF : ERel ρ ev a) {o : Oper} {c : Call} (ho : o.op = .call c) {v : Value} (h : aJH P c ev = some v) (w : World) :
  ∃ v',(execOp a.eval o).run P w = .ok (.value v') w /\ VR ρ v v':=by
 obtain ⟨callee,args,argTypes⟩:=c
 unfold aJH at h
 dsimp only at h
 split at h
 ·rename_i t x hty har
  cases hv : ev x with
  | none=>rw [hv] at h; cases h
  | some u =>
   rw [hv] at h
   have hx:=hF.eval hv
   generalize he : a.eval x = e at hx
   have main : ∀ (A A' : Option Addr) (k m m' : Nat),u = .slice A k m -> e = .slice A' k m' -> ∃ v',(execOp a.eval o).run P w = .ok (.value v') w /\ VR ρ v v':=by
    intro A A' k m m' hu' he'
    subst hu'
    dsimp only at h
    cases hu : P.underlying t with
    | none=>rw [hu] at h; cases h
    | some d =>
     rw [hu] at h
     cases d <;> simp only [reduceCtorEq] at h
     cases h
     refine ⟨goInt k,?_,.int _ _⟩
     unfold execOp
     rw [ho]
     simp only [resolve]
     have hl : aF P (Builtin.len_ argTypes o.type (args.map a.eval)) = some (goInt k):=by
      unfold Builtin.len_
      have : (args.map a.eval)[0]? = some (.slice A' k m'):=by rw [Array.getElem?_map,har]; simp [he,he']
      rw [hty,this]
      dsimp only
      rw [bE (aK hu)]
      rfl
     show ((Builtin.len_ argTypes o.type (args.map a.eval)) >>= fun r=>pure (Next.value r)).run P w = _
     rw [aL hl]
     rfl
   cases hx <;> try simp only [reduceCtorEq] at h
   case nilSlice=>exact main _ _ _ _ _ rfl rfl
   case slice=>exact main _ _ _ _ _ rfl rfl
   case emptySlice=>exact main _ _ _ _ _ rfl rfl
 ·cases h
theorem cF {P : Program} {s : Sem Value} {w w' : World} {v : Value} (h : s.run P w = .ok v w') : (s >>= fun r=>pure (Next.value r)).run P w = .ok (.value v) w':=by
 rw [Sem.run_bind,h]
 rfl
theorem aFO {P : Program} {ρ : Place} {ev : Operand -> Option Value} {a : Act} (hF : ERel ρ ev a) {o : Oper} {v : Value} (h : mS P o ev = some v) (w : World) :
  ∃ v',(execOp a.eval o).run P w = .ok (.value v') w /\ VR ρ v v':=by
 have hsc : ∀ {v},iS P o ev = some v -> ∃ v',(execOp a.eval o).run P w = .ok (.value v') w /\ VR ρ v v':=fun h=>vC hF h w
 obtain ⟨dst,op,type,pos,after,guard⟩:=o
 unfold mS at h
 cases op <;> dsimp only at h
 case move x=>exact ⟨_,rfl,hF.eval h⟩
 case assign x=>exact ⟨_,rfl,hF.eval h⟩
 case pick c x y =>
  cases hc : ev c with
  | none=>rw [hc] at h; cases h
  | some u =>
   rw [hc] at h
   have hx:=hF.eval hc
   generalize he : a.eval c = e at hx
   cases hx <;> try simp only [reduceCtorEq] at h
   rename_i b
   refine ⟨if b then a.eval x else a.eval y,?_,?_⟩
   ·show ((asBool (a.eval c)) >>= fun t=>pure (Next.value (if t then a.eval x else a.eval y))).run P w = _
    rw [he]
    rfl
   ·cases b
    ·exact hF.eval h
    ·exact hF.eval h
 case nilCheck x =>
  split at h
  ·rename_i A hx
   cases h
   have hv:=hF.eval hx
   cases hE : a.eval x <;> rw [hE] at hv <;> try (cases hv)
   rename_i hb
   refine ⟨_,?_,.ptr hb⟩
   unfold execOp
   dsimp only
   rw [hE]
   rfl
  ·exact hsc h
 case field t x f =>
  cases hx : ev x with
  | none=>rw [hx] at h; cases h
  | some u =>
   rw [hx] at h
   obtain ⟨v',e,hv⟩:=aDU (hF.eval hx) h w
   exact ⟨v',cF e,hv⟩
 case index t x i =>
  split at h
  ·rename_i c j hx hi
   obtain ⟨v',e,hv⟩:=aEi (hF.eval hx) (hF.eval hi) h w
   exact ⟨v',cF e,hv⟩
  ·exact hsc h
 case extract x i =>
  split at h
  ·rename_i vs hx
   have hv:=hF.eval hx
   cases hE : a.eval x <;> rw [hE] at hv <;> try (cases hv)
   rename_i vs' hs hc
   obtain ⟨v',e,hv⟩:=VRA.get ⟨hs,hc⟩ h
   refine ⟨v',?_,hv⟩
   unfold execOp
   dsimp only
   rw [hE]
   exact cF (s:=Instr.extract (.tuple vs') i) (by unfold Instr.extract; dsimp only; rw [e]; rfl)
  ·cases h
 case build t ps =>
  cases hx : evP ev ps.toList with
  | none=>rw [hx] at h; cases h
  | some l =>
   rw [hx] at h
   obtain ⟨v',e,hv⟩:=aE2 (wX hF hx) h w
   refine ⟨v',?_,hv⟩
   unfold execOp
   dsimp only
   refine cF ?_
   rw [← e]
   congr 2
   apply Array.ext'
   simp
 case fieldAddr t x f =>
  cases hx : ev x with
  | none=>rw [hx] at h; cases h
  | some u =>
   rw [hx] at h
   obtain ⟨v',e,hv⟩:=wA (hF.eval hx) h w
   exact ⟨v',cF e,hv⟩
 case indexAddr t x i =>
  split at h
  ·rename_i u j hx hi
   obtain ⟨v',e,hv⟩:=jY (hF.eval hx) (hF.eval hi) h w
   exact ⟨v',cF e,hv⟩
  ·cases h
 case slice t x lo hi mx =>
  cases mx with
  | some m=>exact hsc h
  | none =>
   dsimp only at h
   split at h
   ·rename_i A k c hx
    obtain ⟨v',e,hv⟩:=aE7 hF (hF.eval hx) h w
    exact ⟨v',cF e,hv⟩
   ·exact hsc h
 case makeFunc fn f c =>
  cases fn <;> try exact hsc h
  rename_i k
  dsimp only at h
  split at h
  ·rename_i f' c' hf hc
   cases h
   have h1:=(fB hF hf).arr
   have h2:=(fB hF hc).arr
   refine ⟨.func (.func k) (f.map a.eval) (c.map a.eval),rfl,?_⟩
   have e1 : (f.toList.map a.eval).toArray = f.map a.eval:=by apply Array.ext'; simp
   have e2 : (c.toList.map a.eval).toArray = c.map a.eval:=by apply Array.ext'; simp
   rw [e1] at h1
   rw [e2] at h2
   exact .func k h1.1 h1.2 h2.1 h2.2
  ·cases h
 case makeInterface t x =>
  cases hu : P.underlying t with
  | none=>rw [hu] at h; cases h
  | some d =>
   rw [hu] at h
   have main : (∀ ms,d ≠ .interface ms) -> (ev x).map (Value.iface t) = some v -> ∃ v',(execOp a.eval ⟨dst,.makeInterface t x,type,pos,after,guard⟩).run P w = .ok (.value v') w /\ VR ρ v v':=by
    intro hd hh
    simp only [Option.map_eq_some_iff] at hh
    obtain ⟨u,hx,rfl⟩:=hh
    refine ⟨.iface t (a.eval x),?_,.iface t (hF.eval hx)⟩
    refine cF (s:=Instr.makeInterface t (a.eval x)) ?_
    unfold Instr.makeInterface
    rw [aL (aK hu)]
    cases d <;> first | rfl | exact absurd rfl (hd _)
   cases d <;> try exact main (by simp) h
   cases h
 case call c =>
  split at h
  ·rename_i u hl
   cases h
   exact aH2 hF rfl hl w
  ·exact hsc h
 case binOp op t x y ty =>
  split at h
  ·rename_i u z hx hy
   split at h
   ·rename_i r hr
    cases h
    obtain ⟨g1,g2,g3,g4⟩:=aHX (P:=P) (t:=t) (x:=x) (y:=y) hr w
    have e1:=oU g3 (hF.eval hx)
    have e2:=oU g4 (hF.eval hy)
    refine ⟨_,?_,cJ g2⟩
    unfold execOp
    dsimp only
    rw [e1,e2]
    exact g1
   split at h
   ·rename_i b hb
    cases h
    refine ⟨v,aCz (hF.eval hx) (hF.eval hy) hb w,?_⟩
    have : ∃ b,v = .bool b:=by
     unfold aEq at hb
     have hE : ∀ b,rZ b op = some v -> ∃ b,v = .bool b:=by
      intro b hh
      cases op <;> simp only [rZ,reduceCtorEq,Option.some.injEq] at hh <;> exact ⟨_,hh.symm⟩
     split at hb <;> first | (split at hb <;> first | exact hE _ hb | cases hb) | cases hb
    obtain ⟨b,rfl⟩:=this
    exact .bool b
   ·exact hsc h
  ·cases h
 all_goals exact hsc h
end Go.Proofs.YtngginofamlkkaaGreatDoor

noncomputable section
namespace Go.Proofs.YtngginofamlkkaaGreatDoor
open Go Go.RowKit
open Nat (eq_of_beq_eq_true le_refl lt_or_ge)
set_option maxRecDepth 100000
set_option maxHeartbeats 8000000
structure Base where
 w : World
 mu : Nat -> Prop
 f0 : Nat -> Option Obj
 ds : List Deferred
def Base.old (W : Base) (c : Nat) : Prop:=c < W.w.heap.size /\ ¬ W.mu c
structure Still (W : Base) (w : World) : Prop where
 os : w.os = W.w.os
 tape : w.tape = W.w.tape
 output : w.output = W.w.output
 size : W.w.heap.size <= w.heap.size
 block : ∀ k,W.old k -> w.heap[k]? = W.w.heap[k]?
theorem Still.fresh {W : Base} {w : World} (h : Still W w) : ¬ W.old w.heap.size:=fun h'=>by have:=h.size; have:=h'.1; omega
theorem Still.drew {W : Base} {w : World} (h : Still W w) : Still W { w with drawn:=w.drawn + 1 }:=⟨h.os,h.tape,h.output,h.size,h.block⟩
def AObj.wr : AObj -> Bool
 | .cells _ wr=>wr
 | .iter _ _=>true
def ORel (ρ : Place) (O : Nat -> Prop) (c s z : Nat) : AObj -> Obj -> Prop
 | .cells l wr,.cells cs _ fr=>cs.size = z /\ s + l.length <= z /\ (∀ o,o < z -> ¬ (fr.1 <= o /\ o < fr.2)) /\ (∀ (i : Nat) (v : Value),l[i]? = some v -> ∃ v',cs[s + i]? = some v' /\ VR ρ v v') /\ (wr = true -> ¬ O c)
 | .iter st p,.stringIter st' p'=>st' = st /\ p' = p /\ ¬ O c /\ s = 0
 | _,_=>False
theorem ORel.mono {ρ ρ' : Place} (h : ρ.le ρ') {O : Nat -> Prop} {c s z : Nat} {o : AObj} {ob : Obj} (ho : ORel ρ O c s z o ob) : ORel ρ' O c s z o ob:=by
 cases o with
 | cells l wr =>
  cases ob <;> try exact ho.elim
  obtain ⟨h1,h2,h3,h4,h5⟩:=ho
  exact ⟨h1,h2,h3,fun i v hv=>let ⟨v',e,hr⟩:=h4 i v hv; ⟨v',e,hr.mono h⟩,h5⟩
 | iter st p =>
  cases ob <;> try exact ho.elim
  exact ho
structure Rel (ρ : Place) (W : Base) (hp : Tr AObj) (nx : Nat) (w : World) : Prop where
 dom : ∀ b x,ρ b = some x -> b < nx /\ x.1 < w.heap.size
 obj : ∀ b o c s z,hp.get b = some o -> ρ b = some (c,s,z) -> ∃ ob,w.heap[c]? = some ob /\ ORel ρ W.old c s z o ob
 inj : ∀ b b' x x' o o',hp.get b = some o -> hp.get b' = some o' -> ρ b = some x -> ρ b' = some x' -> x.1 = x'.1 -> b = b'
 fresh : ∀ b,nx <= b -> hp.get b = none
 below : Still W w
 frz : ∀ c ob,ρ.fr c = some ob -> w.heap[c]? = some ob
 apart : ∀ b o c s z,hp.get b = some o -> o.wr = true -> ρ b = some (c,s,z) -> ρ.fr c = none
 frn : ∀ c ob,ρ.fr c = some ob -> W.f0 c = some ob ∨ ¬ W.old c
def Base.bare (W : Base) : Base:=⟨W.w,W.mu,W.f0,[]⟩
theorem Rel.bare {ρ : Place} {W : Base} {hp : Tr AObj} {nx : Nat} {w : World} (h : Rel ρ W hp nx w) : Rel ρ W.bare hp nx w :=
 ⟨h.dom,h.obj,h.inj,h.fresh,⟨h.below.os,h.below.tape,h.below.output,h.below.size,h.below.block⟩,h.frz,h.apart,h.frn⟩
theorem Rel.unbare {ρ : Place} {W : Base} {hp : Tr AObj} {nx : Nat} {w : World} (h : Rel ρ W.bare hp nx w) : Rel ρ W hp nx w :=
 ⟨h.dom,h.obj,h.inj,h.fresh,⟨h.below.os,h.below.tape,h.below.output,h.below.size,h.below.block⟩,h.frz,h.apart,h.frn⟩
theorem Rel.drew {ρ : Place} {W : Base} {hp : Tr AObj} {nx : Nat} {w : World} (h : Rel ρ W hp nx w) : Rel ρ W hp nx { w with drawn:=w.drawn + 1 } :=
 ⟨h.dom,h.obj,h.inj,h.fresh,h.below.drew,h.frz,h.apart,h.frn⟩
theorem Rel.reserve {ρ : Place} {W : Base} {hp : Tr AObj} {nx : Nat} {w : World} (h : Rel ρ W hp nx w) (o : AObj) : Rel ρ W (hp.put nx (some o)) (nx + 1) w:=by
 have hn : ρ nx = none:=by
  cases hc : ρ nx with
  | none=>rfl
  | some x=>have:=(h.dom nx x hc).1; omega
 have get : ∀ b x,ρ b = some x -> (hp.put nx (some o)).get b = hp.get b:=fun b x hb=>by
  rw [Tr.get_put,if_neg (by intro e; subst e; rw [hn] at hb; cases hb)]
 refine ⟨fun b x hb=>⟨Nat.lt_succ_of_lt (h.dom b x hb).1,(h.dom b x hb).2⟩,fun b o' c s z ho hb=>?_,fun b b' x x' o1 o2 h1 h2 hb hb' hx=>?_,fun b hb=>?_,h.below,h.frz,fun b o' c s z ho hw hb=>by rw [get b _ hb] at ho; exact h.apart b o' c s z ho hw hb,h.frn⟩
 ·rw [get b _ hb] at ho
  exact h.obj b o' c s z ho hb
 ·rw [get b _ hb] at h1
  rw [get b' _ hb'] at h2
  exact h.inj b b' x x' o1 o2 h1 h2 hb hb' hx
 ·rw [Tr.get_put,if_neg (by omega)]
  exact h.fresh b (by omega)
def Place.set (ρ : Place) (b : Nat) (x : Nat × Nat × Nat) : Place:=⟨fun k=>if k = b then some x else ρ k,ρ.fr,ρ.gl⟩
theorem Place.le_set {ρ : Place} {b : Nat} {x : Nat × Nat × Nat} (h : ρ b = none) : ρ.le (ρ.set b x):=⟨fun k y hk=>by
 unfold Place.set
 dsimp only
 rw [if_neg (by intro e; subst e; rw [h] at hk; cases hk)]
 exact hk,fun _ _ hc=>hc⟩
theorem Place.set_same (ρ : Place) (b : Nat) (x : Nat × Nat × Nat) : (ρ.set b x) b = some x:=by simp [Place.set]
theorem Place.set_other {ρ : Place} {b k : Nat} {x : Nat × Nat × Nat} (h : k ≠ b) : (ρ.set b x) k = ρ k:=by simp [Place.set,h]
def gB (w : World) (ob : Obj) : World:={ w with heap:=w.heap.push ob }
theorem wH (w : World) (ob : Obj) {c : Nat} (h : c < w.heap.size) : (gB w ob).heap[c]? = w.heap[c]?:=by
 show (w.heap.push ob)[c]? = _
 rw [Array.getElem?_push,if_neg (Nat.ne_of_lt h)]
theorem aC1 (w : World) (ob : Obj) : (gB w ob).heap[w.heap.size]? = some ob:=by
 show (w.heap.push ob)[w.heap.size]? = _
 rw [Array.getElem?_push,if_pos rfl]
theorem aDG {W : Base} {w : World} (h : Still W w) (ob : Obj) : Still W (gB w ob) :=
 ⟨h.os,h.tape,h.output,by have:=h.size; show _ <= (w.heap.push ob).size; rw [Array.size_push]; omega,fun k hk=>by rw [wH w ob (by have:=h.size; have:=hk.1; omega)]; exact h.block k hk⟩
theorem Rel.realize {ρ : Place} {W : Base} {hp : Tr AObj} {nx : Nat} {w : World} (h : Rel ρ W hp nx w) {b : Nat} {o : AObj} {ob : Obj} {z : Nat} (hb : b < nx) (hn : ρ b = none) (ho : hp.get b = some o)
  (hr : ORel ρ W.old w.heap.size 0 z o ob) : Rel (ρ.set b (w.heap.size,0,z)) W hp nx (gB w ob):=by
 have hle:=Place.le_set (x:=(w.heap.size,0,z)) hn
 refine ⟨fun k x hk=>?_,fun k o' c s z' ho' hk=>?_,fun k k' x x' o1 o2 h1 h2 hk hk' hx=>?_,h.fresh,aDG h.below ob,fun c ob' hc=>?_,fun k o' c s z' ho' hw hk=>?_,h.frn⟩
 ·by_cases e : k = b
  ·subst e
   rw [Place.set_same] at hk
   cases hk
   exact ⟨hb,by show _ < (w.heap.push ob).size; rw [Array.size_push]; omega⟩
  ·rw [Place.set_other e] at hk
   have:=h.dom k x hk
   exact ⟨this.1,by show _ < (w.heap.push ob).size; rw [Array.size_push]; omega⟩
 ·by_cases e : k = b
  ·subst e
   rw [Place.set_same] at hk
   cases hk
   rw [ho] at ho'
   cases ho'
   exact ⟨ob,aC1 w ob,hr.mono hle⟩
  ·rw [Place.set_other e] at hk
   obtain ⟨ob',e1,e2⟩:=h.obj k o' c s z' ho' hk
   have:=(h.dom k _ hk).2
   exact ⟨ob',by rw [wH w ob this]; exact e1,e2.mono hle⟩
 ·by_cases e : k = b
  ·by_cases e' : k' = b
   ·rw [e,e']
   ·subst e
    rw [Place.set_same] at hk
    rw [Place.set_other e'] at hk'
    cases hk
    have:=(h.dom k' x' hk').2
    simp only at hx
    omega
  ·by_cases e' : k' = b
   ·subst e'
    rw [Place.set_same] at hk'
    rw [Place.set_other e] at hk
    cases hk'
    have:=(h.dom k x hk).2
    simp only at hx
    omega
   ·rw [Place.set_other e] at hk
    rw [Place.set_other e'] at hk'
    exact h.inj k k' x x' o1 o2 h1 h2 hk hk' hx
 ·have:=h.frz c ob' hc
  rw [wH w ob (by
   rcases lt_or_ge c w.heap.size with h' | h'
   ·exact h'
   ·simp [Array.getElem?_eq_none h'] at this)]
  exact this
 ·show ρ.fr c = none
  by_cases e : k = b
  ·subst e
   rw [Place.set_same] at hk
   cases hk
   cases hf : ρ.fr w.heap.size with
   | none=>rfl
   | some x=>have:=h.frz _ _ hf; simp at this
  ·rw [Place.set_other e] at hk
   exact h.apart k o' c s z' ho' hw hk
def single : Value -> Bool
 | .agg _ | .tuple _=>false
 | _=>true
theorem Rel.cell {ρ : Place} {W : Base} {hp : Tr AObj} {nx : Nat} {w : World} (h : Rel ρ W hp nx w) {b c s z : Nat} {l : List Value} {wr : Bool} (hb : hp.get b = some (.cells l wr)) (hr : ρ b = some (c,s,z))
  {i : Nat} {v : Value} (hv : l[i]? = some v) : ∃ v',w.cell? ⟨c,s + i,none⟩ = some v' /\ VR ρ v v':=by
 obtain ⟨ob,e,ho⟩:=h.obj b _ c s z hb hr
 cases ob <;> try exact ho.elim
 obtain ⟨h1,h2,h3,h4,h5⟩:=ho
 obtain ⟨v',e',hv'⟩:=h4 i v hv
 exact ⟨v',by simp [World.cell?,e,e'],hv'⟩
theorem aBV {P : Program} {w : World} {p : Addr} {v : Value} {cs : Array Value} {t : TypeId} {fr : Nat × Nat} (hc : w.heap[p.block]? = some (.cells cs t fr)) (hp : p.spot = none) (ho : p.off < cs.size)
  (hf : ¬ (fr.1 <= p.off /\ p.off < fr.2)) (hs : single v = true) : (store p v).run P w = .ok () (w.setCell p v):=by
 have h1 : w.cell? p = some cs[p.off]:=by simp [World.cell?,hc,hp,ho]
 have h2 : w.frozen? p = false:=by
  simp only [World.frozen?,hc]
  simp only [Bool.and_eq_false_iff,decide_eq_false_iff_not]
  by_cases h : fr.1 <= p.off
  ·exact .inr fun h'=>hf ⟨h,h'⟩
  ·exact .inl h
 unfold store
 have hn : ∀ c,v ≠ .agg c:=fun c e=>by subst e; exact absurd hs Bool.false_ne_true
 have hm : ∀ c,v ≠ .tuple c:=fun c e=>by subst e; exact absurd hs Bool.false_ne_true
 cases v <;> first | exact absurd rfl (hn _) | exact absurd rfl (hm _) | (simp only [Sem.run,h1,h2]; rfl)
theorem hG (w : World) {c : Nat} (o : Nat) (v : Value) {cs : Array Value} {t : TypeId} {fr : Nat × Nat} (hc : w.heap[c]? = some (.cells cs t fr)) (k : Nat) :
  (w.setCell ⟨c,o,none⟩ v).heap[k]? = if k = c then some (.cells (cs.setIfInBounds o v) t fr) else w.heap[k]?:=by
 simp only [World.setCell,Array.getElem?_modify]
 by_cases h : c = k
 ·subst h; simp [hc]
 ·simp [h,Ne.symm h]
theorem sC {W : Base} {w : World} (h : Still W w) {p : Addr} (hp : ¬ W.old p.block) (v : Value) : Still W (w.setCell p v) :=
 ⟨h.os,h.tape,h.output,by have:=h.size; simp [World.setCell]; omega,fun k hk=>by
  rw [← h.block k hk]
  simp only [World.setCell,Array.getElem?_modify]
  rw [if_neg (fun e=>hp (by rw [e]; exact hk))]⟩
theorem Rel.write {ρ : Place} {W : Base} {hp : Tr AObj} {nx : Nat} {w : World} (h : Rel ρ W hp nx w) {b c s z : Nat} {l : List Value} (hb : hp.get b = some (.cells l true)) (hr : ρ b = some (c,s,z))
  {i : Nat} (hi : i < l.length) {v v' : Value} (hv : VR ρ v v') (hs : single v' = true) (P : Program) :
  (store ⟨c,s + i,none⟩ v').run P w = .ok () (w.setCell ⟨c,s + i,none⟩ v') /\ Rel ρ W (hp.put b (some (.cells (l.set i v) true))) nx (w.setCell ⟨c,s + i,none⟩ v'):=by
 obtain ⟨ob,e,ho⟩:=h.obj b _ c s z hb hr
 cases ob <;> try exact ho.elim
 rename_i cs t fr
 obtain ⟨h1,h2,h3,h4,h5⟩:=ho
 have hbn : b < nx:=(h.dom b _ hr).1
 refine ⟨aBV e rfl (by show s + i < cs.size; omega) (h3 (s + i) (by omega)) hs,⟨fun k x hk=>⟨(h.dom k x hk).1,by simpa [World.setCell] using (h.dom k x hk).2⟩,fun k o' c' s' z' ho' hk=>?_,fun k k' x x' o1 o2 g1 g2 hk hk' hx=>?_,fun k hk=>?_,sC h.below (h5 rfl) v',fun c0 ob0 hc0=>?_,fun k o' c' s' z' ho' hw hk=>?_,h.frn⟩⟩
 ·rw [Tr.get_put] at ho'
  by_cases ek : k = b
  ·rw [if_pos ek] at ho'
   cases ho'
   rw [ek,hr] at hk
   cases hk
   refine ⟨.cells (cs.setIfInBounds (s + i) v') t fr,by rw [hG w _ _ e,if_pos rfl],by simp [h1],by simpa using h2,h3,fun j u hu=>?_,h5⟩
   rw [List.getElem?_set] at hu
   by_cases hji : i = j
   ·rw [if_pos hji] at hu
    split at hu
    ·cases hu
     refine ⟨v',?_,hv⟩
     rw [← hji,Array.getElem?_setIfInBounds,if_pos rfl,if_pos (by omega)]
    ·exact absurd hi (by assumption)
   ·rw [if_neg hji] at hu
    obtain ⟨u',e1,e2⟩:=h4 j u hu
    exact ⟨u',by rw [Array.getElem?_setIfInBounds_ne (by omega)]; exact e1,e2⟩
  ·rw [if_neg ek] at ho'
   obtain ⟨ob',e1,e2⟩:=h.obj k o' c' s' z' ho' hk
   refine ⟨ob',?_,e2⟩
   rw [hG w _ _ e,if_neg]
   ·exact e1
   ·intro ec
    exact ek (h.inj k b _ _ _ _ ho' hb hk hr ec)
 ·have live : ∀ k o,(hp.put b (some (.cells (l.set i v) true))).get k = some o -> ∃ o',hp.get k = some o':=fun k o hk=>by
   rw [Tr.get_put] at hk
   by_cases ek : k = b
   ·exact ⟨_,ek ▸ hb⟩
   ·rw [if_neg ek] at hk; exact ⟨_,hk⟩
  obtain ⟨_,g1'⟩:=live k o1 g1
  obtain ⟨_,g2'⟩:=live k' o2 g2
  exact h.inj k k' x x' _ _ g1' g2' hk hk' hx
 ·rw [Tr.get_put,if_neg (by omega)]
  exact h.fresh k hk
 ·rw [hG w _ _ e,if_neg]
  ·exact h.frz c0 ob0 hc0
  ·intro ec
   have:=h.apart b _ c s z hb rfl hr
   rw [ec,this] at hc0
   cases hc0
 ·rw [Tr.get_put] at ho'
  by_cases ek : k = b
  ·rw [ek,hr] at hk
   cases hk
   exact h.apart b _ c s z hb rfl hr
  ·rw [if_neg ek] at ho'
   exact h.apart k o' c' s' z' ho' hw hk
theorem hJ {P : Program} {w : World} {a : Addr} : ∀ (vs : List Value) (k : Nat) (acc : Array Value),(∀ (i : Nat) (v : Value),vs[i]? = some v -> w.cell? (a.add (k + i)) = some v) ->
  (loadCellsFrom a k vs.length acc).run P w = .ok (acc ++ vs.toArray) w
 | [],k,acc,_=>by simp [loadCellsFrom]
 | v :: vs,k,acc,h=>by
  have h0 : w.cell? (a.add k) = some v:=by simpa using h 0 v rfl
  simp only [List.length_cons,loadCellsFrom]
  have hl : (load (a.add k)).run P w = .ok v w:=by rw [run_load,h0]
  rw [Sem.run_bind,hl,Result.andThen_ok,hJ vs (k + 1) (acc.push v) fun i u hu=>by
   have:=h (i + 1) u (by simpa using hu)
   rw [show k + 1 + i = k + (i + 1) by omega]
   exact this]
  simp
def iN (hp : Tr AObj) (b o n : Nat) : Option (List Value) :=
 match hp.get b with
 | some (.cells l _)=>bif (o + n).ble l.length then some ((l.drop o).take n) else none
 | _=>none
theorem kN {P : Program} {ρ : Place} {W : Base} {hp : Tr AObj} {nx : Nat} {w : World} (h : Rel ρ W hp nx w) {b o n c s z : Nat} {l : List Value} (hl : iN hp b o n = some l) (hr : ρ b = some (c,s,z)) :
  ∃ l',VRL ρ l l' /\ l.length = n /\ (loadCells ⟨c,s + o,none⟩ n).run P w = .ok l'.toArray w:=by
 unfold iN at hl
 cases hb : hp.get b with
 | none=>rw [hb] at hl; cases hl
 | some ob =>
  rw [hb] at hl
  cases ob <;> try (cases hl)
  rename_i cs wr
  dsimp only at hl
  cases hc : (o + n).ble cs.length with
  | false=>rw [hc] at hl; cases hl
  | true =>
   rw [hc,cond_true] at hl
   cases hl
   have hle:=Nat.le_of_ble_eq_true hc
   have ex : ∀ i : Nat,i < n -> ∃ v',w.cell? ⟨c,s + (o + i),none⟩ = some v' /\ ∀ v,cs[o + i]? = some v -> VR ρ v v':=by
    intro i hi
    have hlt : o + i < cs.length:=by omega
    obtain ⟨v',e,hv⟩:=h.cell hb hr (i:=o + i) (v:=cs[o + i]) (by simp)
    exact ⟨v',e,fun v hv'=>by simp [hlt] at hv'; rw [← hv']; exact hv⟩
   let f : Nat -> Value:=fun i=>if hi : i < n then (ex i hi).choose else undef
   have hf : ∀ i,i < n -> w.cell? ⟨c,s + (o + i),none⟩ = some (f i) /\ ∀ v,cs[o + i]? = some v -> VR ρ v (f i):=fun i hi=>by
    simp only [f,hi,dif_pos]
    exact (ex i hi).choose_spec
   refine ⟨(List.range n).map f,.of (by simp; omega) (fun i v v' hv hv'=>?_),by simp; omega,?_⟩
   ·simp only [List.getElem?_map,Option.map_eq_some_iff] at hv'
    obtain ⟨k,hk,rfl⟩:=hv'
    rw [List.getElem?_range] at hk
    ·cases hk
     have hi : i < n:=by
      rcases lt_or_ge i n with h' | h'
      ·exact h'
      ·rw [List.getElem?_take,if_neg (by omega)] at hv; cases hv
     rw [List.getElem?_take,if_pos hi,List.getElem?_drop] at hv
     exact (hf i hi).2 v hv
    ·rcases lt_or_ge i n with h' | h'
     ·exact h'
     ·rw [List.getElem?_take,if_neg (by omega)] at hv; cases hv
   ·have:=hJ (P:=P) (w:=w) (a:=⟨c,s + o,none⟩) ((List.range n).map f) 0 #[] (fun i v hv=>by
     simp only [List.getElem?_map,Option.map_eq_some_iff] at hv
     obtain ⟨k,hk,rfl⟩:=hv
     have hi : i < n:=by
      rcases lt_or_ge i n with h' | h'
      ·exact h'
      ·rw [List.getElem?_eq_none (by simp; omega)] at hk; cases hk
     rw [List.getElem?_range hi] at hk
     cases hk
     rw [Nat.zero_add,gP]
     exact (hf i hi).1)
    unfold loadCells
    simpa using this
def uY (P : Program) (hp : Tr AObj) (t : TypeId) (x : Value) : Option Value :=
 match x with
 | .pointer (some ⟨b,o,none⟩)=>match aF P (isAgg t) with
  | some true=>match aF P (sizeOf t) with
   | some z=>match iN hp b o z with
    | some l=>some (.agg l.toArray)
    | none=>none
   | none=>none
  | some false=>match hp.get b with
   | some (.cells l _)=>l[o]?
   | _=>none
  | none=>none
 | _=>none
theorem yB {P : Program} {ρ : Place} {W : Base} {hp : Tr AObj} {nx : Nat} {w : World} (h : Rel ρ W hp nx w) {t : TypeId} {x x' v : Value} (hx : VR ρ x x') (hv : uY P hp t x = some v) :
  ∃ v',(Instr.loadAt t x').run P w = .ok v' w /\ VR ρ v v':=by
 unfold uY at hv
 cases hx <;> try simp only [reduceCtorEq] at hv
 case ptr b o c s z hr =>
  unfold Instr.loadAt
  show ∃ v',(loadVar t ⟨c,s + o,none⟩).run P w = _ /\ _
  unfold loadVar
  cases hi : aF P (isAgg t) with
  | none=>rw [hi] at hv; cases hv
  | some q =>
   rw [hi] at hv
   rw [aL hi]
   cases q with
   | true =>
    dsimp only at hv
    cases hz : aF P (sizeOf t) with
    | none=>rw [hz] at hv; cases hv
    | some m =>
     rw [hz] at hv
     dsimp only at hv
     cases hl : iN hp b o m with
     | none=>rw [hl] at hv; cases hv
     | some l =>
      rw [hl] at hv
      cases hv
      obtain ⟨l',h1,h2,h3⟩:=kN (P:=P) h hl hr
      rw [if_pos rfl,aL hz,Sem.run_bind,h3]
      exact ⟨_,rfl,.agg h1.arr.1 h1.arr.2⟩
   | false =>
    dsimp only at hv
    cases hb : hp.get b with
    | none=>rw [hb] at hv; cases hv
    | some ob =>
     rw [hb] at hv
     cases ob <;> try (cases hv)
     rename_i l wr
     obtain ⟨v',e,hv'⟩:=h.cell hb hr hv
     rw [if_neg (by simp),run_load,e]
     exact ⟨v',rfl,hv'⟩
def jU (cells : Array Value) : Sem Value:=do
 let mut s:=ByteArray.empty
 for c in cells do
  let .int .u8 n:=c | stuck "bytesToString: byte expected"
  s:=s.push (UInt8.ofNat n.toNat)
 pure (.string s)
theorem jX (a : Addr) (n c : Nat) : Conv.bytesToString (.slice (some a) n c) = loadCells a n >>= jU:=rfl
def aAJ (P : Program) (hp : Tr AObj) (src dst : TypeId) (x : Value) : Option Value :=
 match x with
 | .slice (some ⟨b,o,none⟩) n _=>match P.underlying src,P.underlying dst with
  | some (.slice e),some .string=>match P.underlying e with
   | some (.int .u8)=>match iN hp b o n with
    | some l=>bif dM l.toArray then
      match aF P (jU l.toArray) with
      | some (.string s)=>some (.string s)
      | _=>none
     else none
    | none=>none
   | _=>none
  | _,_=>none
 | _=>none
theorem uN {P : Program} {ρ : Place} {W : Base} {hp : Tr AObj} {nx : Nat} {w : World} (h : Rel ρ W hp nx w) {src dst : TypeId} {x x' v : Value} (hx : VR ρ x x') (hv : aAJ P hp src dst x = some v) :
  ∃ v',(convert src dst x').run P w = .ok v' w /\ VR ρ v v':=by
 unfold aAJ at hv
 have go : ∀ (b o n : Nat) (A : Addr) (cap : Nat),(∀ l,iN hp b o n = some l -> ∃ l',VRL ρ l l' /\ (loadCells A n).run P w = .ok l'.toArray w) ->
   (match P.underlying src,P.underlying dst with
    | some (.slice e),some .string=>match P.underlying e with
     | some (.int .u8)=>match iN hp b o n with
      | some l=>bif dM l.toArray then
        match aF P (jU l.toArray) with
        | some (.string s)=>some (.string s)
        | _=>none
       else none
      | none=>none
     | _=>none
    | _,_=>none) = some v -> ∃ v',(convert src dst (.slice (some A) n cap)).run P w = .ok v' w /\ VR ρ v v':=by
  intro b o n A cap hL hh
  split at hh
  ·rename_i e hs hd
   split at hh
   ·rename_i he
    cases hl : iN hp b o n with
    | none=>rw [hl] at hh; cases hh
    | some l =>
     rw [hl] at hh
     dsimp only at hh
     cases hf : dM l.toArray with
     | false=>rw [hf] at hh; cases hh
     | true =>
      rw [hf,cond_true] at hh
      obtain ⟨l',h1,h2⟩:=hL l hl
      have hll : l'.toArray = l.toArray:=aGN (fun _ _=>oU) hf h1.arr.1 h1.arr.2
      split at hh
      ·rename_i s hp'
       cases hh
       refine ⟨.string s,?_,.string s⟩
       unfold convert
       rw [aL (aK hs),aL (aK hd)]
       dsimp only
       rw [aL (aK he)]
       dsimp only
       rw [jX,Sem.run_bind,h2,hll]
       exact fI hp' w
      ·cases hh
   ·cases hh
  ·cases hh
 cases hx <;> try simp only [reduceCtorEq] at hv
 case slice b o n sz c s z cap hr h1 h2 =>
  refine go b o n ⟨c,s + o,none⟩ cap (fun l hl=>?_) hv
  obtain ⟨l',h1,_,h3⟩:=kN (P:=P) h hl hr
  exact ⟨l',h1,h3⟩
 case emptySlice b o y a' sz hr =>
  refine go b o 0 a' 0 (fun l hl=>⟨[],?_,rfl⟩) hv
  unfold iN at hl
  split at hl
  ·rename_i l0 wr hb
   cases hc : (o + 0).ble l0.length with
   | false=>rw [hc] at hl; cases hl
   | true=>rw [hc,cond_true] at hl; cases hl; simp; exact .nil
  ·cases hl
def pL (P : Program) (hp : Tr AObj) (o : Oper) (ev : Operand -> Option Value) : Option Value :=
 match o.op with
 | .load t x=>match ev x with
  | some v=>uY P hp t v
  | none=>none
 | .convert src dst x=>match ev x with
  | some v=>aAJ P hp src dst v
  | none=>none
 | _=>none
theorem aGk {P : Program} {ρ : Place} {W : Base} {hp : Tr AObj} {nx : Nat} {w : World} (h : Rel ρ W hp nx w) {ev : Operand -> Option Value} {a : Act} (hF : ERel ρ ev a) {o : Oper} {v : Value} (hv : pL P hp o ev = some v) :
  ∃ v',(execOp a.eval o).run P w = .ok (.value v') w /\ VR ρ v v':=by
 obtain ⟨dst,op,type,pos,after,guard⟩:=o
 unfold pL at hv
 cases op <;> dsimp only at hv <;> try (cases hv)
 case load t x =>
  cases hx : ev x with
  | none=>rw [hx] at hv; cases hv
  | some u =>
   rw [hx] at hv
   obtain ⟨v',e,hr⟩:=yB h (hF.eval hx) hv
   exact ⟨v',cF e,hr⟩
 case convert src dst' x =>
  cases hx : ev x with
  | none=>rw [hx] at hv; cases hv
  | some u =>
   rw [hx] at hv
   obtain ⟨v',e,hr⟩:=uN h (hF.eval hx) hv
   exact ⟨v',cF e,hr⟩
inductive NewV where
 | ptr
 | slice (n sz : Nat)
def NewV.val (b : Nat) : NewV -> Value
 | .ptr=>.pointer (some ⟨b,0,none⟩)
 | .slice n sz=>.slice (some ⟨b,0,none⟩) n sz
def sA (P : Program) (ρ : Place) (s : Sem Value) (ob : AObj) (nv : NewV) (w : World) : Prop :=
 ∃ v' ob' d z,s.run P w = .ok v' (gB { w with drawn:=d } ob') /\ (∀ O : Nat -> Prop,¬ O w.heap.size -> ORel ρ O w.heap.size 0 z ob ob') /\ (∀ ρ' b,ρ' b = some (w.heap.size,0,z) -> VR ρ' (nv.val b) v')
theorem aM2 {ρ : Place} {l : List Value} {cs cs' : Array Value} (h : VRA ρ cs cs') (hl : l = cs.toList) (O : Nat -> Prop) (k : Nat) (hB : ¬ O k) (t : TypeId) : ORel ρ O k 0 cs'.size (.cells l true) (.cells cs' t):=by
 subst hl
 refine ⟨rfl,by simp [h.1],fun o _=>by simp,fun i v hv=>?_,fun _=>hB⟩
 obtain ⟨v',e,hr⟩:=h.get (i:=i) (v:=v) (by simpa using hv)
 exact ⟨v',by simpa using e,hr⟩
theorem rK {P : Program} {ρ : Place} {w : World} {t : TypeId} {cs cs' : Array Value} (h : VRA ρ cs cs') {f : Addr -> Value} {nv : NewV} {s : Sem Value} (hs : s.run P w = ((newRow t cs') >>= fun a=>pure (f a)).run P w)
  (hv : ∀ ρ' b,ρ' b = some (w.heap.size,0,cs'.size) -> VR ρ' (nv.val b) (f ⟨w.heap.size,0,none⟩)) : sA P ρ s (.cells cs.toList true) nv w :=
 ⟨_,.cells cs' t,w.drawn,cs'.size,hs.trans rfl,fun B hB=>aM2 h rfl B _ hB t,hv⟩
def aH7 (P : Program) (t : TypeId) : Option AObj :=
 match aF P (zeroValue t) with
 | some z=>bif dM z.cells then some (.cells z.cells.toList true) else none
 | none=>none
theorem aE5 {P : Program} {ρ : Place} {t : TypeId} {ob : AObj} (h : aH7 P t = some ob) (w : World) : sA P ρ (Instr.alloc t true (.tuple #[])) ob .ptr w:=by
 unfold aH7 at h
 cases hz : aF P (zeroValue t) with
 | none=>rw [hz] at h; cases h
 | some z =>
  rw [hz] at h
  dsimp only at h
  cases hf : dM z.cells with
  | false=>rw [hf] at h; cases h
  | true =>
   rw [hf] at h
   cases h
   refine rK (t:=t) (f:=fun a=>.pointer (some a)) (kA hf) ?_ fun ρ' b hb=>?_
   ·unfold Instr.alloc
    rw [aL hz]
    rfl
   ·have:=VR.ptr (ρ:=ρ') (o:=0) hb
    exact this
theorem aHu {P : Program} {ρ : Place} {t : TypeId} {v v' : Value} (hv : VR ρ v v') (w : World) : sA P ρ (Instr.box t v') (.cells v.cells.toList true) .ptr w :=
 rK (t:=t) (f:=fun a=>.pointer (some a)) hv.cells rfl fun ρ' _ hb=>VR.ptr (ρ:=ρ') (o:=0) hb
def qR (P : Program) (t : TypeId) (len : Nat) (ps : List (Nat × Value)) : Option (AObj × NewV) :=
 match P.underlying t with
 | some (.slice elem)=>match aF P (sizeOf elem) with
  | some size=>bif (len * size).ble (2 ^ 24) then
    match (if len * size = 0 then some #[] else (aF P (zeroValue elem)).map Value.cells) with
    | some zero =>
     let base:=(Array.range (len * size)).map (zero[· % zero.size]!)
     bif dM base then
      match Instr.fill (fun i=>some (i * size,size)) base ps with
      | some cells=>bif cells.size.beq (len * size) then some (.cells cells.toList true,.slice len size) else none
      | none=>none
     else none
    | none=>none
   else none
  | none=>none
 | _=>none
theorem tV {P : Program} {ρ : Place} {t : TypeId} {len : Nat} {ps ps' : List (Nat × Value)} {ob : AObj} {nv : NewV} (hp : Parts ρ ps ps') (h : qR P t len ps = some (ob,nv)) (w : World) :
  sA P ρ (Instr.buildSlice t len ps'.toArray) ob nv w:=by
 unfold qR at h
 split at h
 case h_2=>cases h
 rename_i elem hu
 cases hz : aF P (sizeOf elem) with
 | none=>rw [hz] at h; cases h
 | some size =>
  rw [hz] at h
  dsimp only at h
  cases hle : (len * size).ble (2 ^ 24) with
  | false=>rw [hle] at h; cases h
  | true =>
   rw [hle,cond_true] at h
   have hle':=Nat.le_of_ble_eq_true hle
   split at h
   case h_2=>cases h
   rename_i zero hzero
   cases hf : dM ((Array.range (len * size)).map (zero[· % zero.size]!)) with
   | false=>rw [hf] at h; cases h
   | true =>
    rw [hf,cond_true] at h
    split at h
    case h_2=>cases h
    rename_i cells hfill
    cases hsz : cells.size.beq (len * size) with
    | false=>rw [hsz] at h; cases h
    | true =>
     rw [hsz,cond_true] at h
     cases h
     have hsz':=eq_of_beq_eq_true hsz
     obtain ⟨cells',e,hv⟩:=aAp _ hp (kA (ρ:=ρ) hf) hfill
     refine rK (t:=elem) (f:=fun a=>.slice (some a) len len) hv ?_ fun ρ' b hb=>?_
     ·unfold Instr.buildSlice
      rw [aL (aK hu)]
      dsimp only
      rw [aL hz]
      rw [if_neg (by omega)]
      have hzr : aF P (if len * size = 0 then (pure #[] : Sem (Array Value)) else do pure (← zeroValue elem).cells) = some zero:=by
       by_cases h0 : len * size = 0
       ·rw [if_pos h0] at hzero ⊢; cases hzero; rfl
       ·rw [if_neg h0] at hzero ⊢
        simp only [Option.map_eq_some_iff] at hzero
        obtain ⟨zv,h1,h2⟩:=hzero
        rw [bE h1,← h2]
        rfl
      have hj : ∀ (k : Array Value -> Sem Value),(if len * size = 0 then (pure #[] : Sem (Array Value)) >>= k else zeroValue elem >>= fun z=>pure z.cells >>= k).run P w = (k zero).run P w:=by
       intro k
       rw [← aL hzr k w]
       by_cases h0 : len * size = 0
       ·rw [if_pos h0,if_pos h0]
       ·rw [if_neg h0,if_neg h0]
        simp only [bind_assoc]
      refine (hj _).trans ?_
      have e' : Instr.fill (fun i=>some (i * size,size)) ((Array.range (len * size)).map (zero[· % zero.size]!)) ps'.toArray.toList = some cells':=e
      rw [e']
     ·have h2:=VR.slice (ρ:=ρ') (o:=0) (n:=len) (sz:=size) (cap:=len) hb (le_refl _) (by rw [← hv.1]; omega)
      exact h2
def sK (P : Program) (t : TypeId) (x y : Value) : Option (AObj × NewV) :=
 match x,y,P.underlying t with
 | .int _ len,.int _ cap,some (.slice elem)=>match aF P (typeInfo elem),aF P (sizeOf elem) with
  | some info,some size =>
   let l:=IntKind.i64.wrap len
   let c:=IntKind.i64.wrap cap
   bif (c < 0 || info.bytes * c > 2 ^ 48) || l < 0 || l > c then none else
   match (if c.toNat * size = 0 then some #[] else (aF P (zeroValue elem)).map Value.cells) with
   | some zero =>
    let cells:=(Array.range (c.toNat * size)).map (zero[· % zero.size]!)
    bif dM cells then some (.cells cells.toList true,.slice l.toNat size) else none
   | none=>none
  | _,_=>none
 | _,_,_=>none
theorem xN {P : Program} {ρ : Place} {t : TypeId} {x x' y y' : Value} {ob : AObj} {nv : NewV} (hx : VR ρ x x') (hy : VR ρ y y') (h : sK P t x y = some (ob,nv)) (w : World) :
  sA P ρ (Instr.makeSlice t x' y') ob nv w:=by
 unfold sK at h
 split at h
 case h_2=>cases h
 rename_i k1 len k2 cap elem hu
 cases hx
 cases hy
 split at h
 case h_2=>cases h
 rename_i info size hi hz
 dsimp only at h
 cases hc : ((decide (IntKind.i64.wrap cap < 0) || decide ((info.bytes : Int) * IntKind.i64.wrap cap > 2 ^ 48)) || decide (IntKind.i64.wrap len < 0) || decide (IntKind.i64.wrap len > IntKind.i64.wrap cap)) with
 | true=>rw [hc] at h; cases h
 | false =>
  rw [hc,cond_false] at h
  split at h
  case h_2=>cases h
  rename_i zero hzero
  cases hf : dM ((Array.range ((IntKind.i64.wrap cap).toNat * size)).map (zero[· % zero.size]!)) with
  | false=>rw [hf] at h; cases h
  | true =>
   rw [hf,cond_true] at h
   cases h
   refine rK (t:=elem) (f:=fun a=>.slice (some a) (IntKind.i64.wrap len).toNat (IntKind.i64.wrap cap).toNat) (kA hf) ?_ fun ρ' b hb=>?_
   ·unfold Instr.makeSlice
    rw [aL (aK hu)]
    dsimp only
    show ((typeInfo elem) >>= _).run P w = _
    rw [aL hi]
    dsimp only
    rw [if_neg (by rw [hc]; simp)]
    have hr : aF P (askRoom ((IntKind.i64.wrap cap).toNat * info.bytes)) = some ():=by unfold askRoom; split <;> rfl
    rw [aL hr]
    rw [aL hz]
    have hzr : aF P (if (IntKind.i64.wrap cap).toNat * size = 0 then (pure #[] : Sem (Array Value)) else do pure (← zeroValue elem).cells) = some zero:=by
     by_cases h0 : (IntKind.i64.wrap cap).toNat * size = 0
     ·rw [if_pos h0] at hzero ⊢; cases hzero; rfl
     ·rw [if_neg h0] at hzero ⊢
      simp only [Option.map_eq_some_iff] at hzero
      obtain ⟨zv,h1,h2⟩:=hzero
      rw [bE h1,← h2]
      rfl
    have hj : ∀ (k : Array Value -> Sem Value),(if (IntKind.i64.wrap cap).toNat * size = 0 then (pure #[] : Sem (Array Value)) >>= k else zeroValue elem >>= fun z=>pure z.cells >>= k).run P w = (k zero).run P w:=by
     intro k
     rw [← aL hzr k w]
     by_cases h0 : (IntKind.i64.wrap cap).toNat * size = 0
     ·rw [if_pos h0,if_pos h0]
     ·rw [if_neg h0,if_neg h0]
      simp only [bind_assoc]
    exact hj _
   ·have : (IntKind.i64.wrap len).toNat <= (IntKind.i64.wrap cap).toNat:=by
     simp at hc
     omega
    have h2:=VR.slice (ρ:=ρ') (o:=0) (n:=(IntKind.i64.wrap len).toNat) (sz:=size) (cap:=(IntKind.i64.wrap cap).toNat) hb this (by simp)
    exact h2
def eG (s : ByteArray) : Array Value:=s.data.map fun b=>.int .u8 b.toNat
theorem aAA (s : ByteArray) : dM (eG s) = true:=by
 unfold dM eG
 rw [Array.all_eq_true_iff_forall_mem]
 intro x hx
 obtain ⟨b,_,rfl⟩:=Array.mem_map.1 hx
 rfl
theorem aEM (h : Array Obj) (o : Obj) (f : Obj -> Obj) : (h.push o).modify h.size f = h.push (f o):=by
 apply Array.ext (by simp)
 intro i h1 h2
 rw [Array.getElem_modify]
 by_cases hi : h.size = i
 ·subst hi; simp
 ·simp only [hi,if_false]
  rw [Array.getElem_push,Array.getElem_push]
  have : i < h.size:=by simp at h2; omega
  simp [this]
theorem aEQ {P : Program} {ρ : Place} (e : TypeId) (s : ByteArray) (w : World) : sA P ρ (Conv.stringToBytes e s) (.cells (eG s).toList true) (.slice s.size 1) w:=by
 let cap:=(Question.appendCap s.size 0 e).cut (w.tape w.drawn (.appendCap s.size 0 e))
 have hcap : s.size <= cap:=Nat.le_add_right _ _
 have hsz : (eG s ++ Array.replicate (cap - s.size) (Value.int .u8 0)).size = cap:=by
  simp [eG]
  have : s.data.size = s.size:=rfl
  omega
 let cs:=eG s ++ Array.replicate (cap - s.size) (Value.int .u8 0)
 refine ⟨.slice (some ⟨w.heap.size,0,none⟩) s.size cap,.cells cs e (cap,cap + 1),w.drawn + 1,cap,?_,fun B hB=>?_,fun ρ' b hb=>?_⟩
 ·unfold Conv.stringToBytes
  have hch : (choose (.appendCap s.size 0 e)).run P w = .ok cap { w with drawn:=w.drawn + 1 }:=by
   simp [choose,Sem.run,Question.forced,cap]
  rw [Sem.run_bind,hch,Result.andThen_ok]
  let w1 : World:={ w with drawn:=w.drawn + 1 }
  have hn : (newRow e cs).run P w1 = .ok ⟨w.heap.size,0,none⟩ (gB w1 (.cells cs e)):=rfl
  have hsh : (gB w1 (.cells cs e)).shape? w.heap.size = some (e,cap):=by
   unfold World.shape?
   rw [aC1 w1 (.cells cs e)]
   simp only [cs,hsz]
  have hm : (markStringish ⟨w.heap.size,0,none⟩).run P (gB w1 (.cells cs e)) = .ok () (gB w1 (.cells cs e (cap,cap + 1))):=by
   unfold markStringish
   rw [Sem.run_bind]
   show (Result.andThen (.ok ((gB w1 (.cells cs e)).shape? w.heap.size) (gB w1 (.cells cs e))) _) = _
   rw [hsh,Result.andThen_ok]
   show Result.ok () ((gB w1 (.cells cs e)).freeze ⟨w.heap.size,cap,none⟩ 1) = _
   congr 1
   unfold World.freeze gB
   simp only [Nat.one_ne_zero,if_false]
   congr 1
   exact aEM w.heap _ _
  show (newRow e cs >>= fun a=>markStringish a >>= fun _=>(pure (Value.slice (some a) s.size cap) : Sem Value)).run P w1 = _
  rw [Sem.run_bind,hn,Result.andThen_ok,Sem.run_bind,hm,Result.andThen_ok]
  rfl
 ·refine ⟨hsz,by simp [eG]; have : s.data.size = s.size:=rfl; omega,fun o ho=>by simp; omega,fun i v hv=>?_,fun _=>hB⟩
  have hv' : (eG s)[i]? = some v:=by simpa using hv
  have hi : i < (eG s).size:=by
   rcases lt_or_ge i (eG s).size with h' | h'
   ·exact h'
   ·simp [Array.getElem?_eq_none h'] at hv'
  refine ⟨v,?_,oB (lK (aAA s) hv')⟩
  rw [Nat.zero_add,Array.getElem?_append_left hi]
  exact hv'
 ·have h2:=VR.slice (ρ:=ρ') (o:=0) (n:=s.size) (sz:=1) (cap:=cap) hb hcap (by omega)
  exact h2
def aAD (P : Program) (src dst : TypeId) (x : Value) : Option (AObj × NewV) :=
 match x with
 | .string s=>match P.underlying src,P.underlying dst with
  | some _,some (.slice e)=>match P.underlying e with
   | some (.int .u8)=>some (.cells (eG s).toList true,.slice s.size 1)
   | _=>none
  | _,_=>none
 | _=>none
theorem aAf {P : Program} {ρ : Place} {src dst : TypeId} {x x' : Value} {ob : AObj} {nv : NewV} (hx : VR ρ x x') (h : aAD P src dst x = some (ob,nv)) (w : World) : sA P ρ (convert src dst x') ob nv w:=by
 unfold aAD at h
 split at h
 case h_2=>cases h
 rename_i s
 cases hx
 split at h
 case h_2=>cases h
 rename_i d e hs hd
 split at h
 case h_2=>cases h
 rename_i he
 cases h
 obtain ⟨v',ob',k,z,h1,h2,h3⟩:=aEQ (P:=P) (ρ:=ρ) e s w
 refine ⟨v',ob',k,z,?_,h2,h3⟩
 rw [← h1]
 unfold convert
 rw [aL (aK hs),aL (aK hd)]
 dsimp only
 rw [aL (aK he)]
def aHF (P : Program) (t : TypeId) (x : Value) : Option (AObj × NewV) :=
 match x with
 | .string s=>match P.underlying t with
  | some .string=>some (.iter s 0,.ptr)
  | _=>none
 | _=>none
theorem aDm {P : Program} {ρ : Place} {t : TypeId} {x x' : Value} {ob : AObj} {nv : NewV} (hx : VR ρ x x') (h : aHF P t x = some (ob,nv)) (w : World) : sA P ρ (Instr.range t x') ob nv w:=by
 unfold aHF at h
 split at h
 case h_2=>cases h
 rename_i s
 cases hx
 split at h
 case h_2=>cases h
 rename_i hu
 cases h
 refine ⟨_,.stringIter s 0,w.drawn,0,?_,fun B hB=>⟨rfl,rfl,hB,rfl⟩,fun ρ' b hb=>VR.ptr (ρ:=ρ') (o:=0) hb⟩
 unfold Instr.range
 rw [aL (aK hu)]
 rfl
def aDi (P : Program) (o : Oper) (ev : Operand -> Option Value) : Option (AObj × NewV) :=
 match o.op with
 | .alloc t=>(aH7 P t).map fun ob=>(ob,.ptr)
 | .box _ x=>(ev x).map fun v=>(.cells v.cells.toList true,.ptr)
 | .buildSlice t len ps=>match evP ev ps.toList with
  | some l=>qR P t len l
  | none=>none
 | .makeSlice t x y=>match ev x,ev y with
  | some u,some v=>sK P t u v
  | _,_=>none
 | .convert src dst x=>match ev x with
  | some v=>aAD P src dst v
  | none=>none
 | .range t x=>match ev x with
  | some v=>aHF P t v
  | none=>none
 | _=>none
theorem gL {P : Program} {ρ : Place} {s : Sem Value} {ob : AObj} {nv : NewV} {w : World} (h : sA P ρ s ob nv w) :
  ∃ v' ob' d z,(s >>= fun r=>pure (Next.value r)).run P w = .ok (.value v') (gB { w with drawn:=d } ob') /\ (∀ O : Nat -> Prop,¬ O w.heap.size -> ORel ρ O w.heap.size 0 z ob ob') /\ (∀ ρ' b,ρ' b = some (w.heap.size,0,z) -> VR ρ' (nv.val b) v'):=by
 obtain ⟨v',ob',d,z,h1,h2,h3⟩:=h
 exact ⟨v',ob',d,z,cF h1,h2,h3⟩
theorem aHC {P : Program} {ρ : Place} {ev : Operand -> Option Value} {a : Act} (hF : ERel ρ ev a) {o : Oper} {ob : AObj} {nv : NewV} (h : aDi P o ev = some (ob,nv)) (w : World) :
  ∃ v' ob' d z,(execOp a.eval o).run P w = .ok (.value v') (gB { w with drawn:=d } ob') /\ (∀ O : Nat -> Prop,¬ O w.heap.size -> ORel ρ O w.heap.size 0 z ob ob') /\ (∀ ρ' b,ρ' b = some (w.heap.size,0,z) -> VR ρ' (nv.val b) v'):=by
 obtain ⟨dst,op,type,pos,after,guard⟩:=o
 unfold aDi at h
 cases op <;> dsimp only at h <;> try (cases h)
 case alloc t =>
  simp only [Option.map_eq_some_iff] at h
  obtain ⟨ob',h1,h2⟩:=h
  cases h2
  exact gL (aE5 h1 w)
 case box t x =>
  simp only [Option.map_eq_some_iff] at h
  obtain ⟨v,h1,h2⟩:=h
  cases h2
  exact gL (aHu (hF.eval h1) w)
 case buildSlice t len ps =>
  cases hx : evP ev ps.toList with
  | none=>rw [hx] at h; cases h
  | some l =>
   rw [hx] at h
   have:=gL (tV (wX hF hx) h w)
   have e : (ps.toList.map fun p=>(p.1,a.eval p.2)).toArray = ps.map fun (i,x)=>(i,a.eval x):=by apply Array.ext'; simp
   rw [e] at this
   exact this
 case makeSlice t x y =>
  split at h
  ·rename_i u v hx hy
   exact gL (xN (hF.eval hx) (hF.eval hy) h w)
  ·cases h
 case convert src dst' x =>
  cases hx : ev x with
  | none=>rw [hx] at h; cases h
  | some u=>rw [hx] at h; exact gL (aAf (hF.eval hx) h w)
 case range t x =>
  cases hx : ev x with
  | none=>rw [hx] at h; cases h
  | some u=>rw [hx] at h; exact gL (aDm (hF.eval hx) h w)
theorem Rel.congr {ρ : Place} {W : Base} {hp hp' : Tr AObj} {nx : Nat} {w : World} (h : Rel ρ W hp nx w) (he : ∀ b,hp'.get b = hp.get b) : Rel ρ W hp' nx w :=
 ⟨h.dom,fun b o c s z ho=>h.obj b o c s z (by rw [← he]; exact ho),fun b b' x x' o o' h1 h2=>h.inj b b' x x' o o' (by rw [← he]; exact h1) (by rw [← he]; exact h2),fun b hb=>by rw [he]; exact h.fresh b hb,h.below,h.frz,fun b o c s z ho=>h.apart b o c s z (by rw [← he]; exact ho),h.frn⟩
structure Step (ρ ρ' : Place) (hp hp' : Tr AObj) (nx nx' : Nat) : Prop where
 le : ρ.le ρ'
 more : nx <= nx'
 old : ∀ b,b < nx -> ρ b = none -> ρ' b = none /\ hp'.get b = hp.get b
theorem Step.refl (ρ : Place) (hp : Tr AObj) (nx : Nat) : Step ρ ρ hp hp nx nx:=⟨.refl ρ,le_refl _,fun _ _ h=>⟨h,rfl⟩⟩
theorem Step.trans {ρ ρ' ρ'' : Place} {hp hp' hp'' : Tr AObj} {nx nx' nx'' : Nat} (h : Step ρ ρ' hp hp' nx nx') (k : Step ρ' ρ'' hp' hp'' nx' nx'') : Step ρ ρ'' hp hp'' nx nx'' :=
 ⟨h.le.trans k.le,Nat.le_trans h.more k.more,fun b hb hr=>by
  have h1:=h.old b hb hr
  have h2:=k.old b (Nat.lt_of_lt_of_le hb h.more) h1.1
  exact ⟨h2.1,h2.2.trans h1.2⟩⟩
theorem VR.single {ρ : Place} {v v' : Value} (h : VR ρ v v') : single v' = single v:=by cases h <;> rfl
theorem Rel.write2 {ρ : Place} {W : Base} {hp : Tr AObj} {nx : Nat} {w : World} (h : Rel ρ W hp nx w) {b c s z : Nat} {l l2 : List Value} (hb : hp.get b = some (.cells l true)) (hr : ρ b = some (c,s,z))
  {i : Nat} {v v' : Value} (hi : s + i < z) (hz : s + l2.length <= z) (hl : ∀ (j : Nat) (u : Value),l2[j]? = some u -> (j = i /\ u = v) ∨ (j ≠ i /\ l[j]? = some u)) (hv : VR ρ v v') (hs : single v' = true) (P : Program) :
  (store ⟨c,s + i,none⟩ v').run P w = .ok () (w.setCell ⟨c,s + i,none⟩ v') /\ Rel ρ W (hp.put b (some (.cells l2 true))) nx (w.setCell ⟨c,s + i,none⟩ v'):=by
 obtain ⟨ob,e,ho⟩:=h.obj b _ c s z hb hr
 cases ob <;> try exact ho.elim
 rename_i cs t fr
 obtain ⟨h1,h2,h3,h4,h5⟩:=ho
 have hbn : b < nx:=(h.dom b _ hr).1
 refine ⟨aBV e rfl (by show s + i < cs.size; omega) (h3 (s + i) (by omega)) hs,⟨fun k x hk=>⟨(h.dom k x hk).1,by simpa [World.setCell] using (h.dom k x hk).2⟩,fun k o' c' s' z' ho' hk=>?_,fun k k' x x' o1 o2 g1 g2 hk hk' hx=>?_,fun k hk=>?_,sC h.below (h5 rfl) v',fun c0 ob0 hc0=>?_,fun k o' c' s' z' ho' hw hk=>?_,h.frn⟩⟩
 ·rw [Tr.get_put] at ho'
  by_cases ek : k = b
  ·rw [if_pos ek] at ho'
   cases ho'
   rw [ek,hr] at hk
   cases hk
   refine ⟨.cells (cs.setIfInBounds (s + i) v') t fr,by rw [hG w _ _ e,if_pos rfl],by simp [h1],hz,h3,fun j u hu=>?_,h5⟩
   rcases hl j u hu with ⟨hji,hu'⟩ | ⟨hji,hu'⟩
   ·subst hu'
    refine ⟨v',?_,hv⟩
    rw [hji,Array.getElem?_setIfInBounds,if_pos rfl,if_pos (by omega)]
   ·obtain ⟨u',e1,e2⟩:=h4 j u hu'
    exact ⟨u',by rw [Array.getElem?_setIfInBounds_ne (by omega)]; exact e1,e2⟩
  ·rw [if_neg ek] at ho'
   obtain ⟨ob',e1,e2⟩:=h.obj k o' c' s' z' ho' hk
   refine ⟨ob',?_,e2⟩
   rw [hG w _ _ e,if_neg]
   ·exact e1
   ·intro ec
    exact ek (h.inj k b _ _ _ _ ho' hb hk hr ec)
 ·have live : ∀ k o,(hp.put b (some (.cells l2 true))).get k = some o -> ∃ o',hp.get k = some o':=fun k o hk=>by
   rw [Tr.get_put] at hk
   by_cases ek : k = b
   ·exact ⟨_,ek ▸ hb⟩
   ·rw [if_neg ek] at hk; exact ⟨_,hk⟩
  obtain ⟨_,g1'⟩:=live k o1 g1
  obtain ⟨_,g2'⟩:=live k' o2 g2
  exact h.inj k k' x x' _ _ g1' g2' hk hk' hx
 ·rw [Tr.get_put,if_neg (by omega)]
  exact h.fresh k hk
 ·rw [hG w _ _ e,if_neg]
  ·exact h.frz c0 ob0 hc0
  ·intro ec
   have:=h.apart b _ c s z hb rfl hr
   rw [ec,this] at hc0
   cases hc0
 ·rw [Tr.get_put] at ho'
  by_cases ek : k = b
  ·rw [ek,hr] at hk
   cases hk
   exact h.apart b _ c s z hb rfl hr
  ·rw [if_neg ek] at ho'
   exact h.apart k o' c' s' z' ho' hw hk
def cP (l : List Value) (o : Nat) : List Value -> List Value
 | []=>l
 | v :: vs=>cP (l.set o v) (o + 1) vs
theorem aAO {P : Program} {ρ : Place} {W : Base} {nx b c s z o : Nat} (hr : ρ b = some (c,s,z)) : ∀ {vs vs' : List Value},VRL ρ vs vs' -> ∀ (k : Nat) (hp : Tr AObj) (w : World) (l : List Value),
  Rel ρ W hp nx w -> hp.get b = some (.cells l true) -> o + k + vs.length <= l.length -> vs.all single = true ->
  ∃ w',(storeCells ⟨c,s + o,none⟩ vs' k).run P w = .ok () w' /\ Rel ρ W (hp.put b (some (.cells (cP l (o + k) vs) true))) nx w':=by
 intro vs vs' hv
 induction hv with
 | nil =>
  intro k hp w l h hb _ _
  refine ⟨w,rfl,h.congr fun j=>?_⟩
  rw [Tr.get_put]
  split
  ·rename_i e; rw [e,hb]; rfl
  ·rfl
 | cons hv htl ih =>
  rename_i v v' vs vs'
  intro k hp w l h hb hlen hall
  simp only [List.all_cons,Bool.and_eq_true] at hall
  simp only [List.length_cons] at hlen
  obtain ⟨ob,e,ho⟩:=h.obj b _ c s z hb hr
  have hz : s + l.length <= z:=by
   cases ob <;> try exact ho.elim
   exact ho.2.1
  obtain ⟨h1,h2⟩:=h.write2 (i:=o + k) (v:=v) (v':=v') (l2:=l.set (o + k) v) hb hr (by omega) (by simpa using hz) (fun j u hu=>by
   rw [List.getElem?_set] at hu
   by_cases hj : o + k = j
   ·rw [if_pos hj] at hu
    split at hu
    ·cases hu; exact .inl ⟨hj.symm,rfl⟩
    ·cases hu
   ·rw [if_neg hj] at hu
    exact .inr ⟨Ne.symm hj,hu⟩) hv (by rw [hv.single]; exact hall.1) P
  obtain ⟨w',h3,h4⟩:=ih (k + 1) _ _ (l.set (o + k) v) h2 (by rw [Tr.get_put,if_pos rfl]) (by simp; omega) hall.2
  refine ⟨w',?_,h4.congr fun j=>?_⟩
  ·show (store ((⟨c,s + o,none⟩ : Addr).add k) v' >>= fun _=>storeCells ⟨c,s + o,none⟩ vs' (k + 1)).run P w = _
   rw [gP,Sem.run_bind,h1,Result.andThen_ok]
   exact h3
  ·simp only [cP]
   rw [show o + (k + 1) = o + k + 1 by omega]
   rw [Tr.get_put,Tr.get_put,Tr.get_put]
   split <;> rfl
theorem aGE {P : Program} {ρ : Place} {W : Base} {nx b c s z o : Nat} (hr : ρ b = some (c,s,z)) : ∀ {vs vs' : List Value},VRL ρ vs vs' -> ∀ (k : Nat) (hp : Tr AObj) (w : World) (l : List Value),
  Rel ρ W hp nx w -> hp.get b = some (.cells l true) -> l.length = o + k -> s + (o + k) + vs.length <= z -> vs.all single = true ->
  ∃ w',(storeCells ⟨c,s + o,none⟩ vs' k).run P w = .ok () w' /\ Rel ρ W (hp.put b (some (.cells (l ++ vs) true))) nx w':=by
 intro vs vs' hv
 induction hv with
 | nil =>
  intro k hp w l h hb _ _ _
  refine ⟨w,rfl,h.congr fun j=>?_⟩
  rw [Tr.get_put]
  split
  ·rename_i e; rw [e,hb]; simp
  ·rfl
 | cons hv htl ih =>
  rename_i v v' vs vs'
  intro k hp w l h hb hlen hz hall
  simp only [List.all_cons,Bool.and_eq_true] at hall
  simp only [List.length_cons] at hz
  obtain ⟨h1,h2⟩:=h.write2 (i:=o + k) (v:=v) (v':=v') (l2:=l ++ [v]) hb hr (by omega) (by simp; omega) (fun j u hu=>by
   rcases lt_or_ge j l.length with hj | hj
   ·rw [List.getElem?_append_left hj] at hu
    exact .inr ⟨by omega,hu⟩
   ·rw [List.getElem?_append_right hj] at hu
    have : j - l.length = 0:=by
     rcases Nat.eq_zero_or_pos (j - l.length) with h' | h'
     ·exact h'
     ·rw [List.getElem?_eq_none (by simp; omega)] at hu; cases hu
    rw [this] at hu
    cases hu
    exact .inl ⟨by omega,rfl⟩) hv (by rw [hv.single]; exact hall.1) P
  obtain ⟨w',h3,h4⟩:=ih (k + 1) _ _ (l ++ [v]) h2 (by rw [Tr.get_put,if_pos rfl]) (by simp; omega) (by omega) hall.2
  refine ⟨w',?_,h4.congr fun j=>?_⟩
  ·show (store ((⟨c,s + o,none⟩ : Addr).add k) v' >>= fun _=>storeCells ⟨c,s + o,none⟩ vs' (k + 1)).run P w = _
   rw [gP,Sem.run_bind,h1,Result.andThen_ok]
   exact h3
  ·rw [Tr.get_put,Tr.get_put,Tr.get_put]
   split <;> simp
def xI (P : Program) (hp : Tr AObj) (t : TypeId) (x v : Value) : Option (Tr AObj) :=
 match x with
 | .pointer (some ⟨b,o,none⟩)=>match hp.get b with
  | some (.cells l true)=>match aF P (sizeOf t) with
   | some z=>bif v.cells.size.beq z && (o + z).ble l.length && v.cells.toList.all single then some (hp.put b (some (.cells (cP l o v.cells.toList) true))) else none
   | none=>none
  | _=>none
 | _=>none
theorem aEw {ρ : Place} {hp : Tr AObj} {nx b : Nat} {x : Nat × Nat × Nat} (hr : ρ b = some x) (o : Option AObj) : Step ρ ρ hp (hp.put b o) nx nx :=
 ⟨.refl ρ,le_refl _,fun k _ hk=>⟨hk,by rw [Tr.get_put,if_neg (by intro e; subst e; rw [hr] at hk; cases hk)]⟩⟩
theorem uA {P : Program} {ρ : Place} {W : Base} {hp hp' : Tr AObj} {nx : Nat} {w : World} (h : Rel ρ W hp nx w) {t : TypeId} {x x' v v' : Value} (hx : VR ρ x x') (hv : VR ρ v v') (hs : xI P hp t x v = some hp') :
  ∃ w',(Instr.storeAt t x' v').run P w = .ok () w' /\ Rel ρ W hp' nx w' /\ Step ρ ρ hp hp' nx nx:=by
 unfold xI at hs
 cases hx <;> try simp only [reduceCtorEq] at hs
 case ptr b o c s z hr =>
  split at hs
  case h_2=>cases hs
  rename_i l hb
  split at hs
  case h_2=>cases hs
  rename_i m hz
  cases hc : v.cells.size.beq m && (o + m).ble l.length && v.cells.toList.all single with
  | false=>rw [hc] at hs; cases hs
  | true =>
   rw [hc,cond_true] at hs
   cases hs
   simp only [Bool.and_eq_true] at hc
   obtain ⟨⟨h1,h2⟩,h3⟩:=hc
   have h1:=eq_of_beq_eq_true h1
   have h2:=Nat.le_of_ble_eq_true h2
   obtain ⟨w',h4,h5⟩:=aAO (P:=P) (o:=o) hr hv.cells.list 0 hp w l h hb (by simp; omega) h3
   refine ⟨w',?_,h5,aEw hr _⟩
   unfold Instr.storeAt
   show (storeVar t ⟨c,s + o,none⟩ v').run P w = _
   unfold storeVar
   rw [aL hz]
   rw [if_neg (by rw [← hv.cells.1]; simp [h1])]
   exact h4
def aFv (hp : Tr AObj) (x : Value) (isString : Bool) : Option (Value × Tr AObj) :=
 match x,isString with
 | .pointer (some ⟨b,0,none⟩),true=>match hp.get b with
  | some (.iter s pos)=>bif pos.blt s.size then
    some (.tuple #[.bool true,goInt pos,.int .i32 (Utf8.decode s pos).1],hp.put b (some (.iter s (pos + (Utf8.decode s pos).2))))
   else some (.tuple #[.bool false],hp)
  | _=>none
 | _,_=>none
theorem yA {P : Program} {ρ : Place} {W : Base} {hp hp' : Tr AObj} {nx : Nat} {w : World} (h : Rel ρ W hp nx w) {t : TypeId} {x x' v : Value} {q : Bool} (hx : VR ρ x x') (hs : aFv hp x q = some (v,hp')) :
  ∃ v' w',(Instr.next x' q t).run P w = .ok v' w' /\ VR ρ v v' /\ Rel ρ W hp' nx w' /\ Step ρ ρ hp hp' nx nx:=by
 unfold aFv at hs
 split at hs
 case h_2=>cases hs
 rename_i b
 cases hx with
 | ptr hr =>
  rename_i c s z
  split at hs
  case h_2=>cases hs
  rename_i st pos hb
  obtain ⟨ob,e,ho⟩:=h.obj b _ c s z hb hr
  cases ob <;> try exact ho.elim
  obtain ⟨rfl,rfl,hB,rfl⟩:=ho
  rename_i st pos
  have hg : (getObj c).run P w = .ok (.stringIter st pos) w:=by simp [getObj,Sem.run,e]
  have hc0 : c < w.heap.size:=(h.dom b _ hr).2
  cases hlt : pos.blt st.size with
  | true =>
   rw [hlt,cond_true] at hs
   cases hs
   have hlt' : pos < st.size:=Nat.le_of_ble_eq_true hlt
   let w' : World:={ w with heap:=w.heap.setIfInBounds c (.stringIter st (pos + (Utf8.decode st pos).2)) }
   have hset : (setObj c (.stringIter st (pos + (Utf8.decode st pos).2))).run P w = .ok () w':=by simp [setObj,Sem.run,e,w']
   refine ⟨_,w',?_,cJ (by simp [dK,eY,flat,goInt]),?_,aEw hr _⟩
   ·unfold Instr.next
    show ((getObj c) >>= _).run P w = _
    rw [Sem.run_bind,hg,Result.andThen_ok]
    dsimp only
    rw [if_pos hlt']
    show ((setObj c (.stringIter st (pos + (Utf8.decode st pos).2))) >>= fun _=>pure (Value.tuple #[.bool true,goInt pos,.int .i32 (Utf8.decode st pos).1])).run P w = _
    rw [Sem.run_bind,hset,Result.andThen_ok]
    rfl
   ·have hget : ∀ k,w'.heap[k]? = if k = c then some (.stringIter st (pos + (Utf8.decode st pos).2)) else w.heap[k]?:=by
     intro k
     simp only [w',Array.getElem?_setIfInBounds]
     by_cases hk : c = k
     ·subst hk; simp [hc0]
     ·simp [hk,Ne.symm hk]
    refine ⟨fun k x hk=>⟨(h.dom k x hk).1,by simpa [w'] using (h.dom k x hk).2⟩,fun k o' c' s' z' ho' hk=>?_,fun k k' x x' o1 o2 g1 g2 hk hk' hx=>?_,fun k hk=>?_,⟨h.below.os,h.below.tape,h.below.output,by simpa [w'] using h.below.size,fun k hk=>?_⟩,fun c0 ob0 hc0=>?_,fun k o' c' s' z' ho' hw hk=>?_,h.frn⟩
    ·rw [Tr.get_put] at ho'
     by_cases ek : k = b
     ·rw [if_pos ek] at ho'
      cases ho'
      rw [ek,hr] at hk
      cases hk
      exact ⟨.stringIter st (pos + (Utf8.decode st pos).2),by rw [hget,if_pos rfl],rfl,rfl,hB,rfl⟩
     ·rw [if_neg ek] at ho'
      obtain ⟨ob',e1,e2⟩:=h.obj k o' c' s' z' ho' hk
      refine ⟨ob',?_,e2⟩
      rw [hget,if_neg]
      ·exact e1
      ·intro ec
       exact ek (h.inj k b _ _ _ _ ho' hb hk hr ec)
    ·have live : ∀ k o,(hp.put b (some (.iter st (pos + (Utf8.decode st pos).2)))).get k = some o -> ∃ o',hp.get k = some o':=fun k o hk=>by
      rw [Tr.get_put] at hk
      by_cases ek : k = b
      ·exact ⟨_,ek ▸ hb⟩
      ·rw [if_neg ek] at hk; exact ⟨_,hk⟩
     obtain ⟨_,g1'⟩:=live k o1 g1
     obtain ⟨_,g2'⟩:=live k' o2 g2
     exact h.inj k k' x x' _ _ g1' g2' hk hk' hx
    ·rw [Tr.get_put,if_neg (by have:=(h.dom b _ hr).1; omega)]
     exact h.fresh k hk
    ·rw [hget,if_neg (fun e=>hB (by rw [← e]; exact hk))]
     exact h.below.block k hk
    ·rw [hget,if_neg]
     ·exact h.frz c0 ob0 hc0
     ·intro ec
      have:=h.apart b _ c _ z hb rfl hr
      rw [ec,this] at hc0
      cases hc0
    ·rw [Tr.get_put] at ho'
     by_cases ek : k = b
     ·rw [ek,hr] at hk
      cases hk
      exact h.apart b _ c _ z hb rfl hr
     ·rw [if_neg ek] at ho'
      exact h.apart k o' c' s' z' ho' hw hk
  | false =>
   rw [hlt,cond_false] at hs
   cases hs
   refine ⟨_,w,?_,cJ (by simp [dK,eY,flat]),h,.refl _ _ _⟩
   have hlt' : ¬ pos < st.size:=fun h'=>by
    have : pos.blt st.size = true:=Nat.ble_eq_true_of_le h'
    rw [this] at hlt; cases hlt
   unfold Instr.next
   show ((getObj c) >>= _).run P w = _
   rw [Sem.run_bind,hg,Result.andThen_ok]
   dsimp only
   rw [if_neg hlt']
   rfl
def qY : Value -> Option Nat
 | .slice _ n _=>some n
 | .string s=>some s.size
 | .func (.via _ _ n false) _ _=>some n
 | _=>none
theorem aDg {P : Program} {ρ : Place} {x x' : Value} {n : Nat} (hx : VR ρ x x') (h : qY x = some n) : aF P (Builtin.lenOf x') = some n:=by
 cases hx <;> simp only [qY,reduceCtorEq] at h <;> exact h
def mI (hp : Tr AObj) (size n : Nat) : Value -> Option (List Value)
 | .slice none _ _=>bif n.beq 0 then some [] else none
 | .slice (some ⟨b,o,none⟩) _ _=>bif n.beq 0 then some [] else iN hp b o (n * size)
 | .string s=>some ((s.extract 0 n).data.map fun b=>Value.int .u8 b.toNat).toList
 | .func (.via sz _ m false) els _=>bif sz.beq size && n.beq m then some (els.toList.flatMap fun u=>u.cells.toList) else none
 | _=>none
theorem aG5 {sz : Nat} : ∀ (els : List Value),(∀ u ∈ els,u.cells.size = sz) -> ∀ (k : Nat) (v : Value),(els.flatMap fun u=>u.cells.toList)[k]? = some v -> ∃ i j u,els[i]? = some u /\ u.cells[j]? = some v /\ k = i * sz + j
 | [],_,k,v,h=>by simp at h
 | u :: l,hu,k,v,h=>by
  have h0:=hu u (by simp)
  rw [List.flatMap_cons] at h
  rcases lt_or_ge k sz with hk | hk
  ·rw [List.getElem?_append_left (by simpa [h0] using hk)] at h
   exact ⟨0,k,u,rfl,by simpa using h,by omega⟩
  ·rw [List.getElem?_append_right (by simpa [h0] using hk)] at h
   obtain ⟨i,j,x,h1,h2,h3⟩:=aG5 l (fun y hy=>hu y (by simp [hy])) _ v h
   refine ⟨i + 1,j,x,by simpa using h1,h2,?_⟩
   rw [Nat.succ_mul]
   simp only [Array.length_toList,h0] at h3
   omega
theorem aGp {sz : Nat} : ∀ (els : List Value),(∀ u ∈ els,u.cells.size = sz) -> (els.flatMap fun u=>u.cells.toList).length = els.length * sz
 | [],_=>by simp
 | u :: l,hu=>by
  rw [List.flatMap_cons,List.length_append,aGp l fun y hy=>hu y (by simp [hy])]
  simp only [Array.length_toList,hu u (by simp),List.length_cons,Nat.succ_mul]
  omega
theorem qI {P : Program} {ρ : Place} {W : Base} {hp : Tr AObj} {nx : Nat} {w : World} (h : Rel ρ W hp nx w) {x x' : Value} {size n : Nat} {l : List Value} (hx : VR ρ x x') (hl : mI hp size n x = some l)
  (hn : ∀ m,qY x = some m -> n <= m) : ∃ l',VRL ρ l l' /\ (Builtin.firstCells size n x').run P w = .ok l'.toArray w:=by
 cases hx <;> simp only [mI,reduceCtorEq] at hl
 case nilSlice m c =>
  cases h0 : n.beq 0 with
  | false=>rw [h0] at hl; cases hl
  | true=>rw [h0] at hl; cases hl; exact ⟨[],.nil,rfl⟩
 case slice b o m sz c s z cap hr h1 h2 =>
  cases h0 : n.beq 0 with
  | false =>
   rw [h0,cond_false] at hl
   obtain ⟨l',h3,_,h4⟩:=kN (P:=P) h hl hr
   exact ⟨l',h3,h4⟩
  | true =>
   rw [h0] at hl
   cases hl
   have:=eq_of_beq_eq_true h0
   subst this
   refine ⟨[],.nil,?_⟩
   show (loadCells _ (0 * size)).run P w = _
   rw [Nat.zero_mul]
   rfl
 case emptySlice b o y a' sz hr =>
  have:=hn 0 rfl
  have : n = 0:=by omega
  subst this
  refine ⟨[],?_,?_⟩
  ·simp [Nat.beq] at hl
   subst hl
   exact .nil
  ·show (loadCells a' (0 * size)).run P w = _
   rw [Nat.zero_mul]
   rfl
 case treeNil sz a cap =>
  cases hc : sz.beq size && n.beq 0 with
  | false=>rw [hc] at hl; cases hl
  | true =>
   rw [hc] at hl
   cases hl
   simp only [Bool.and_eq_true] at hc
   have:=eq_of_beq_eq_true hc.2
   subst this
   refine ⟨[],.nil,?_⟩
   cases a with
   | none=>rfl
   | some a=>show (loadCells _ (0 * size)).run P w = _; rw [Nat.zero_mul]; rfl
 case tree sz m cap c o els cs t fz hf hm hcap hs hsz hr =>
  cases hc : sz.beq size && n.beq m with
  | false=>rw [hc] at hl; cases hl
  | true =>
   rw [hc] at hl
   cases hl
   simp only [Bool.and_eq_true] at hc
   have e1:=eq_of_beq_eq_true hc.1
   have e2:=eq_of_beq_eq_true hc.2
   subst e1 e2
   have hall : ∀ u ∈ els.toList,u.cells.size = sz:=fun u hu=>by
    obtain ⟨i,hi⟩:=List.mem_iff_getElem?.1 hu
    exact hsz i u (by simpa using hi)
   have hlen : (els.toList.flatMap fun u=>u.cells.toList).length = n * sz:=by rw [aGp _ hall,Array.length_toList,hm]
   have hexl : (cs.extract o (o + n * sz)).toList.length = n * sz:=by simp; omega
   refine ⟨(cs.extract o (o + n * sz)).toList,.of (by rw [hlen,hexl]) (fun k v v' hv hv'=>?_),?_⟩
   ·obtain ⟨i,j,u,g1,g2,g3⟩:=aG5 _ hall k v hv
    have hk : cs[o + k]? = some v':=by
     rw [Array.getElem?_toList,Array.getElem?_extract] at hv'
     split at hv'
     ·exact hv'
     ·cases hv'
    refine (hr i j u v v' (by simpa using g1) g2 ?_).lift
    rw [← hk,g3]
    congr 1
    omega
   ·have:=hJ (P:=P) (w:=w) (a:=⟨c,o,none⟩) (cs.extract o (o + n * sz)).toList 0 #[] (fun i v hv=>by
     rw [Nat.zero_add,show (⟨c,o,none⟩ : Addr) = ⟨c,o + 0,none⟩ from rfl,gP]
     have hc : w.cell? ⟨c,o + (0 + i),none⟩ = cs[o + (0 + i)]?:=by simp [World.cell?,h.frz c _ hf]
     rw [hc]
     rw [Array.getElem?_toList,Array.getElem?_extract] at hv
     split at hv
     ·rw [← hv]; congr 1; omega
     ·cases hv)
    show (loadCells ⟨c,o,none⟩ (n * sz)).run P w = _
    unfold loadCells
    rw [hexl] at this
    rw [this]
    simp
 case string s =>
  cases hl
  refine ⟨((s.extract 0 n).data.map fun b=>Value.int .u8 b.toNat).toList,?_,?_⟩
  rotate_left
  ·show Result.ok ((s.extract 0 n).data.map fun b=>Value.int .u8 b.toNat) w = _
   rw [Array.toArray_toList]
  ·exact .of rfl fun i v v' a b=>by
    rw [a] at b
    cases b
    have hm:=List.mem_of_getElem? a
    simp only [Array.toList_map,List.mem_map] at hm
    obtain ⟨y,_,rfl⟩:=hm
    exact .int _ _
theorem aRm {P : Program} {ρ : Place} {x x' : Value} {m : Nat} (hx : VR ρ x x') (h : qY x = some m) (size : Nat) (w : World) : (Builtin.firstCells size 0 x').run P w = .ok #[] w:=by
 cases hx <;> simp only [qY,reduceCtorEq] at h
 case nilSlice=>rfl
 case slice=>show (loadCells _ (0 * size)).run P w = _; rw [Nat.zero_mul]; rfl
 case emptySlice=>show (loadCells _ (0 * size)).run P w = _; rw [Nat.zero_mul]; rfl
 case tree=>show (loadCells _ (0 * size)).run P w = _; rw [Nat.zero_mul]; rfl
 case treeNil sz a cap =>
  cases a with
  | none=>rfl
  | some a=>show (loadCells _ (0 * size)).run P w = _; rw [Nat.zero_mul]; rfl
 case string s =>
  show Result.ok ((s.extract 0 0).data.map fun b=>Value.int .u8 b.toNat) w = _
  congr 1
  apply Array.eq_empty_of_size_eq_zero
  simp
def sT (P : Program) (t : Option TypeId) : Bool :=
 match t with
 | none=>true
 | some t=>match P.underlying t with
  | some (.int _)=>false
  | some _=>true
  | none=>false
def uV (P : Program) (hp : Tr AObj) (nx : Nat) (argTypes : Array TypeId) (args : Array Value) : Option (Value × Tr AObj × Nat) :=
 match argTypes[0]?,(args[0]? : Option Value),(args[1]? : Option Value) with
 | some t,some (.slice base sLen sz),some x=>match P.underlying t,qY x with
  | some (.slice elem),some n=>match aF P (sizeOf elem) with
   | some size=>bif sT P argTypes[1]? then
     bif n.beq 0 then
      bif base.isSome || sLen.ble sz then some (.slice base sLen sz,hp,nx) else none
     else match aF P (typeInfo elem),aF P (zeroValue elem),mI hp size n x with
      | some info,some zero,some new =>
       bif zero.cells.size.beq size && (sLen + n).ble (2 ^ 25) && info.bytes.ble (2 ^ 20) && new.all single && new.length.beq (n * size) then
        match base with
        | none=>bif sLen.beq 0 && sz.beq 0 then some (.slice (some ⟨nx,0,none⟩) n size,hp.put nx (some (.cells new true)),nx + 1) else none
        | some ⟨b,o,none⟩=>match hp.get b with
         | some (.cells _ true)=>bif sz.beq size then
           match iN hp b o (sLen * size) with
           | some old=>some (.slice (some ⟨nx,0,none⟩) (sLen + n) size,(hp.put b none).put nx (some (.cells (old ++ new) true)),nx + 1)
           | none=>none
          else none
         | _=>none
        | _=>none
       else none
      | _,_,_=>none
    else none
   | none=>none
  | _,_=>none
 | _,_,_=>none
theorem aCC (newLen M : Nat) (hM : ∀ c,c < newLen -> c + (c + 768) / 4 <= M) : ∀ (r c : Nat),c <= M -> Builtin.growBy newLen r c <= M
 | 0,c,h=>h
 | r + 1,c,h=>by
  simp only [Builtin.growBy]
  split
  ·exact h
  ·exact aCC newLen M hM r _ (hM c (by omega))
theorem aH0 {need cap : Nat} (h : cap < need) : Builtin.nextslicecap need cap <= 2 * need + 200:=by
 unfold Builtin.nextslicecap
 split
 ·omega
 ·split
  ·omega
  ·exact aCC need _ (fun c hc=>by omega) 4 cap (by omega)
theorem Rel.drop {ρ : Place} {W : Base} {hp : Tr AObj} {nx : Nat} {w : World} (h : Rel ρ W hp nx w) (b : Nat) : Rel ρ W (hp.put b none) nx w:=by
 have sub : ∀ k o,(hp.put b none).get k = some o -> hp.get k = some o:=fun k o hk=>by
  rw [Tr.get_put] at hk
  split at hk
  ·cases hk
  ·exact hk
 refine ⟨h.dom,fun k o c s z ho hk=>h.obj k o c s z (sub k o ho) hk,fun k k' x x' o o' h1 h2=>h.inj k k' x x' o o' (sub _ _ h1) (sub _ _ h2),fun k hk=>?_,h.below,h.frz,fun k o c s z ho=>h.apart k o c s z (sub k o ho),h.frn⟩
 rw [Tr.get_put]
 split
 ·rfl
 ·exact h.fresh k hk
theorem Rel.rename {ρ : Place} {W : Base} {hp : Tr AObj} {nx : Nat} {w : World} (h : Rel ρ W hp nx w) {b c s z o : Nat} {l old : List Value} (hb : hp.get b = some (.cells l true)) (hr : ρ b = some (c,s,z))
  (hold : ∀ (i : Nat) (v : Value),old[i]? = some v -> l[o + i]? = some v) (hlen : s + o + old.length <= z) : Rel (ρ.set nx (c,s + o,z)) W ((hp.put b none).put nx (some (.cells old true))) (nx + 1) w:=by
 have hn : ρ nx = none:=by
  cases hc : ρ nx with
  | none=>rfl
  | some x=>have:=(h.dom nx x hc).1; omega
 have hle:=Place.le_set (x:=(c,s + o,z)) hn
 have hbn : b < nx:=(h.dom b _ hr).1
 have sub : ∀ k ob,k ≠ nx -> ((hp.put b none).put nx (some (.cells old true))).get k = some ob -> k ≠ b /\ hp.get k = some ob:=fun k ob hk hg=>by
  rw [Tr.get_put,if_neg hk,Tr.get_put] at hg
  split at hg
  ·cases hg
  ·rename_i e; exact ⟨e,hg⟩
 refine ⟨fun k x hk=>?_,fun k ob c' s' z' hg hk=>?_,fun k k' x x' o1 o2 h1 h2 hk hk' hx=>?_,fun k hk=>?_,h.below,h.frz,fun k o' c' s' z' hg hw hk=>?_,h.frn⟩
 ·by_cases e : k = nx
  ·subst e
   rw [Place.set_same] at hk
   cases hk
   exact ⟨by omega,(h.dom b _ hr).2⟩
  ·rw [Place.set_other e] at hk
   exact ⟨by have:=(h.dom k x hk).1; omega,(h.dom k x hk).2⟩
 ·by_cases e : k = nx
  ·subst e
   rw [Place.set_same] at hk
   cases hk
   rw [Tr.get_put,if_pos rfl] at hg
   cases hg
   obtain ⟨ob,e1,e2⟩:=h.obj b _ c s z hb hr
   cases ob <;> try exact e2.elim
   rename_i cs t fr
   obtain ⟨g1,g2,g3,g4,g5⟩:=e2
   refine ⟨.cells cs t fr,e1,g1,hlen,g3,fun i v hv=>?_,g5⟩
   obtain ⟨v',e3,e4⟩:=g4 (o + i) v (hold i v hv)
   exact ⟨v',by rw [show s + o + i = s + (o + i) by omega]; exact e3,e4.mono hle⟩
  ·rw [Place.set_other e] at hk
   obtain ⟨ob',e1,e2⟩:=h.obj k ob c' s' z' (sub k ob e hg).2 hk
   exact ⟨ob',e1,e2.mono hle⟩
 ·by_cases e : k = nx
  ·by_cases e' : k' = nx
   ·rw [e,e']
   ·subst e
    rw [Place.set_same] at hk
    rw [Place.set_other e'] at hk'
    cases hk
    have:=sub k' o2 e' h2
    exact absurd (h.inj b k' _ _ _ _ hb this.2 hr hk' hx).symm this.1
  ·by_cases e' : k' = nx
   ·subst e'
    rw [Place.set_same] at hk'
    rw [Place.set_other e] at hk
    cases hk'
    have:=sub k o1 e h1
    exact absurd (h.inj k b _ _ _ _ this.2 hb hk hr hx) this.1
   ·rw [Place.set_other e] at hk
    rw [Place.set_other e'] at hk'
    exact h.inj k k' x x' o1 o2 (sub k o1 e h1).2 (sub k' o2 e' h2).2 hk hk' hx
 ·rw [Tr.get_put,if_neg (by omega),Tr.get_put]
  split
  ·rfl
  ·exact h.fresh k (by omega)
 ·show ρ.fr c' = none
  by_cases e : k = nx
  ·subst e
   rw [Place.set_same] at hk
   cases hk
   exact h.apart b _ c s z hb rfl hr
  ·rw [Place.set_other e] at hk
   exact h.apart k o' c' s' z' (sub k o' e hg).2 hw hk
def aB5 (t : Option TypeId) : Sem Bool :=
 match t with
 | some xType=>do pure ((← underlying xType) matches .int _)
 | none=>pure false
theorem aHA {P : Program} {t : Option TypeId} (h : sT P t = true) : aF P (aB5 t) = some false:=by
 unfold aB5
 cases t with
 | none=>rfl
 | some t =>
  simp only [sT] at h
  cases hu : P.underlying t with
  | none=>rw [hu] at h; cases h
  | some d =>
   rw [hu] at h
   dsimp only
   rw [bE (aK hu)]
   cases d <;> first | rfl | cases h
theorem tD {P : Program} {argTypes : Array TypeId} {ty t elem : TypeId} {args : Array Value} {base : Option Addr} {sLen sCap n size : Nat} {x : Value} {w : World} (ht : argTypes[0]? = some t) (h0 : args[0]? = some (.slice base sLen sCap)) (h1 : args[1]? = some x)
  (hu : P.underlying t = some (.slice elem)) (hz : aF P (sizeOf elem) = some size) (hm : sT P argTypes[1]? = true) (hl : aF P (Builtin.lenOf x) = some n) :
  (Builtin.append_ argTypes ty args).run P w = (if sLen + n <= sCap then (do
    let new ← Builtin.firstCells size n x
    if let some a:=base then storeCells (a.add (sLen * size)) new.toList
    pure (.slice base (sLen + n) sCap))
   else (do
    if ((sLen + n : Nat) : Int) > IntKind.i64.max /\ (false = true ∨ (← typeInfo elem).bytes = 0) then runtimePanic (.error "growslice: len out of range")
    if Builtin.nextslicecap (sLen + n) sCap * (← typeInfo elem).bytes > 2 ^ 48 then (do
     if !(← Builtin.mayShare size sLen n base x) then mark .noRoom
     unsupported (.resourceLimit "append: a slice or a string whose bytes no memory bears"))
    let newCap ← choose (.appendCap (sLen + n) sCap elem)
    askRoom (newCap * (← typeInfo elem).bytes)
    let old ← Builtin.firstCells size sLen (.slice base sLen sCap)
    let new ← Builtin.firstCells size n x
    let rest:=Builtin.zeroCells (← zeroValue elem).cells (newCap - (sLen + n))
    pure (.slice (some (← newRow elem (old ++ new ++ rest))) (sLen + n) newCap)) : Sem Value).run P w:=by
 unfold Builtin.append_
 rw [ht,h0,h1]
 dsimp only
 rw [aL (aK hu)]
 dsimp only
 rw [aL hz]
 have hmm:=aHA hm
 have key : ∀ (k : Bool -> Sem Value),(match argTypes[1]? with
   | some xType=>underlying xType >>= fun d=>pure (d matches .int _) >>= k
   | none=>pure false >>= k).run P w = (k false).run P w:=by
  intro k
  rw [← aL hmm k w]
  clear hmm hm
  generalize argTypes[1]? = q
  unfold aB5
  cases q with
  | none=>rfl
  | some t=>simp only [bind_assoc]
 refine (key _).trans ?_
 simp only [Bool.false_eq_true,if_false]
 rw [aL hl]
 rfl
theorem aBN {P : Program} {base : Option Addr} {sLen sCap n size : Nat} {x : Value} {w w' : World} {new : Array Value} (hn : (Builtin.firstCells size n x).run P w = .ok new w)
  (hst : (match base with | some a=>storeCells (a.add (sLen * size)) new.toList | none=>pure () : Sem Unit).run P w = .ok () w') :
  ((do
    let new ← Builtin.firstCells size n x
    if let some a:=base then storeCells (a.add (sLen * size)) new.toList
    pure (.slice base (sLen + n) sCap)) : Sem Value).run P w = .ok (.slice base (sLen + n) sCap) w':=by
 rw [Sem.run_bind,hn,Result.andThen_ok]
 cases base with
 | none =>
  cases hst
  rfl
 | some a =>
  dsimp only at hst ⊢
  rw [Sem.run_bind,hst,Result.andThen_ok]
  rfl
theorem aGX {P : Program} {elem : TypeId} {base : Option Addr} {sLen sCap n size : Nat} {x : Value} {w : World} {info : TypeInfo} {zero : Value} {old new : Array Value} (hi : aF P (typeInfo elem) = some info) (hz : aF P (zeroValue elem) = some zero)
  (hneed : sLen + n <= 2 ^ 25) (hb : info.bytes <= 2 ^ 20) (hlt : sCap < sLen + n)
  (hold : (Builtin.firstCells size sLen (.slice base sLen sCap)).run P { w with drawn:=w.drawn + 1 } = .ok old { w with drawn:=w.drawn + 1 })
  (hnew : (Builtin.firstCells size n x).run P { w with drawn:=w.drawn + 1 } = .ok new { w with drawn:=w.drawn + 1 }) :
  ∃ newCap,sLen + n <= newCap /\ ((do
    if ((sLen + n : Nat) : Int) > IntKind.i64.max /\ (false = true ∨ (← typeInfo elem).bytes = 0) then runtimePanic (.error "growslice: len out of range")
    if Builtin.nextslicecap (sLen + n) sCap * (← typeInfo elem).bytes > 2 ^ 48 then (do
     if !(← Builtin.mayShare size sLen n base x) then mark .noRoom
     unsupported (.resourceLimit "append: a slice or a string whose bytes no memory bears"))
    let newCap ← choose (.appendCap (sLen + n) sCap elem)
    askRoom (newCap * (← typeInfo elem).bytes)
    let old ← Builtin.firstCells size sLen (.slice base sLen sCap)
    let new ← Builtin.firstCells size n x
    let rest:=Builtin.zeroCells (← zeroValue elem).cells (newCap - (sLen + n))
    pure (.slice (some (← newRow elem (old ++ new ++ rest))) (sLen + n) newCap)) : Sem Value).run P w =
   .ok (.slice (some ⟨w.heap.size,0,none⟩) (sLen + n) newCap) (gB { w with drawn:=w.drawn + 1 } (.cells (old ++ new ++ Builtin.zeroCells zero.cells (newCap - (sLen + n))) elem)):=by
 let newCap:=(Question.appendCap (sLen + n) sCap elem).cut (w.tape w.drawn (.appendCap (sLen + n) sCap elem))
 refine ⟨newCap,Nat.le_add_right _ _,?_⟩
 have h1 : ¬ (((sLen + n : Nat) : Int) > IntKind.i64.max /\ (false = true ∨ info.bytes = 0)):=by
  rintro ⟨h,_⟩
  have : IntKind.i64.max = 9223372036854775807:=by decide
  rw [this] at h
  omega
 have h2 : ¬ (Builtin.nextslicecap (sLen + n) sCap * info.bytes > 2 ^ 48):=by
  have:=aH0 hlt
  have h3 : Builtin.nextslicecap (sLen + n) sCap <= 2 ^ 27:=by omega
  have : Builtin.nextslicecap (sLen + n) sCap * info.bytes <= 2 ^ 27 * 2 ^ 20:=Nat.mul_le_mul h3 hb
  omega
 have hch : (choose (.appendCap (sLen + n) sCap elem)).run P w = .ok newCap { w with drawn:=w.drawn + 1 }:=by
  simp [choose,Sem.run,Question.forced,newCap]
 have hr : aF P (askRoom (newCap * info.bytes)) = some ():=by unfold askRoom; split <;> rfl
 rw [aL hi]
 rw [if_neg h1]
 rw [aL hi]
 rw [if_neg h2]
 rw [Sem.run_bind,hch,Result.andThen_ok]
 rw [aL hi]
 rw [aL hr]
 rw [Sem.run_bind,hold,Result.andThen_ok]
 rw [Sem.run_bind,hnew,Result.andThen_ok]
 rw [aL hz]
 rfl
theorem aAU (zero : Array Value) (n : Nat) : (Builtin.zeroCells zero n).size = n * zero.size:=by simp [Builtin.zeroCells]
theorem aDe {ρ : Place} {W : Base} {hp : Tr AObj} {nx : Nat} {w : World} (h : Rel ρ W hp nx w) {elem : TypeId} {old new old' new' : List Value} (ho : VRL ρ old old') (hn : VRL ρ new new') {zero : Array Value} {need newCap size : Nat} (hlen : old.length + new.length = need * size) (hcap : need <= newCap) (hz : zero.size = size) :
  let w':=gB { w with drawn:=w.drawn + 1 } (.cells (old'.toArray ++ new'.toArray ++ Builtin.zeroCells zero (newCap - need)) elem)
  ∃ ρ',Rel ρ' W (hp.put nx (some (.cells (old ++ new) true))) (nx + 1) w' /\ ρ.le ρ' /\ (∀ b,b < nx -> ρ' b = ρ b) /\ VR ρ' (.slice (some ⟨nx,0,none⟩) need size) (.slice (some ⟨w.heap.size,0,none⟩) need newCap):=by
 intro w'
 have hnx : ρ nx = none:=by
  cases hc : ρ nx with
  | none=>rfl
  | some x=>have:=(h.dom nx x hc).1; omega
 have hsz : (old'.toArray ++ new'.toArray ++ Builtin.zeroCells zero (newCap - need)).size = newCap * size:=by
  simp only [Array.size_append,List.size_toArray,aAU,← ho.len,← hn.len,hz]
  rw [hlen,← Nat.add_mul]
  congr 1
  omega
 have hrel:=(h.drew.reserve (.cells (old ++ new) true)).realize (b:=nx) (z:=newCap * size) (ob:=.cells (old'.toArray ++ new'.toArray ++ Builtin.zeroCells zero (newCap - need)) elem) (by omega) hnx (by rw [Tr.get_put,if_pos rfl]) (by
  refine ⟨hsz,?_,fun o _=>by simp,fun i v hv=>?_,fun _=>h.below.fresh⟩
  ·rw [List.length_append,hlen,Nat.zero_add]
   exact Nat.mul_le_mul_right _ hcap
  ·have hvl:=ho.append hn
   have hi : i < (old ++ new).length:=by
    rcases lt_or_ge i (old ++ new).length with h' | h'
    ·exact h'
    ·rw [List.getElem?_eq_none h'] at hv; cases hv
   have hi' : i < (old' ++ new').length:=by rw [← hvl.len]; exact hi
   refine ⟨(old' ++ new')[i],?_,hvl.get hv (by simp)⟩
   rw [Nat.zero_add,Array.getElem?_append_left (by simpa using hi')]
   rw [show old'.toArray ++ new'.toArray = (old' ++ new').toArray by simp]
   simp)
 refine ⟨_,hrel,Place.le_set hnx,fun b hb=>Place.set_other (by omega),?_⟩
 have:=VR.slice (ρ:=ρ.set nx (w.heap.size,0,newCap * size)) (o:=0) (n:=need) (sz:=size) (cap:=newCap) (Place.set_same ρ nx _) hcap (by omega)
 exact this
theorem Rel.drawn {ρ : Place} {W : Base} {hp : Tr AObj} {nx : Nat} {w : World} (h : Rel ρ W hp nx w) : Rel ρ W hp nx { w with drawn:=w.drawn + 1 }:=h.drew
theorem sB {P : Program} {ρ : Place} {W : Base} {hp hp' : Tr AObj} {nx nx' : Nat} {w : World} (h : Rel ρ W hp nx w) {argTypes : Array TypeId} {ty : TypeId} {args args' : Array Value} {v : Value} (hx : VRA ρ args args')
  (hs : uV P hp nx argTypes args = some (v,hp',nx')) : ∃ v' w' ρ',(Builtin.append_ argTypes ty args').run P w = .ok v' w' /\ VR ρ' v v' /\ Rel ρ' W hp' nx' w' /\ Step ρ ρ' hp hp' nx nx':=by
 unfold uV at hs
 split at hs
 case h_2=>cases hs
 rename_i t base sLen sz x ht h0 h1
 obtain ⟨d',e0,hd⟩:=hx.get h0
 obtain ⟨x',e1,hxv⟩:=hx.get h1
 split at hs
 case h_2=>cases hs
 rename_i elem n hu hm
 split at hs
 case h_2=>cases hs
 rename_i size hz
 cases hmk : sT P argTypes[1]? with
 | false=>rw [hmk] at hs; cases hs
 | true =>
  rw [hmk,cond_true] at hs
  have hl:=aDg (P:=P) hxv hm
  cases hn0 : n.beq 0 with
  | true =>
   rw [hn0,cond_true] at hs
   have:=eq_of_beq_eq_true hn0
   subst this
   cases hc : base.isSome || sLen.ble sz with
   | false=>rw [hc] at hs; cases hs
   | true =>
    rw [hc] at hs
    cases hs
    have hf0:=aRm (P:=P) hxv hm size w
    have fin : ∀ (A : Option Addr) (cap : Nat),d' = .slice A sLen cap -> sLen <= cap -> (Builtin.append_ argTypes ty args').run P w = .ok d' w:=by
     intro A cap hA hle
     subst hA
     rw [tD ht e0 e1 hu hz hmk hl,if_pos (by omega)]
     rw [aBN (w':=w) hf0 (by cases A <;> rfl)]
     rfl
    refine ⟨d',w,ρ,?_,hd,h,.refl _ _ _⟩
    cases hd with
    | nilSlice=>exact fin _ _ rfl (Nat.le_of_ble_eq_true (by simpa using hc))
    | slice hr h3 h4=>exact fin _ _ rfl h3
    | emptySlice a' hb=>exact fin _ _ rfl (le_refl _)
  | false =>
   rw [hn0,cond_false] at hs
   split at hs
   case h_2=>cases hs
   rename_i info zero new hi hzv hnew
   cases hc : zero.cells.size.beq size && (sLen + n).ble (2 ^ 25) && info.bytes.ble (2 ^ 20) && new.all single && new.length.beq (n * size) with
   | false=>rw [hc] at hs; cases hs
   | true =>
    rw [hc,cond_true] at hs
    simp only [Bool.and_eq_true] at hc
    obtain ⟨⟨⟨⟨c1,c2⟩,c3⟩,c4⟩,c5⟩:=hc
    have c1:=eq_of_beq_eq_true c1
    have c2:=Nat.le_of_ble_eq_true c2
    have c3:=Nat.le_of_ble_eq_true c3
    have c5:=eq_of_beq_eq_true c5
    have hsrc : ∀ m,qY x = some m -> n <= m:=fun m hm'=>by rw [hm] at hm'; cases hm'; exact le_refl _
    have hn1 : 0 < n:=by
     rcases Nat.eq_zero_or_pos n with h' | h'
     ·subst h'; cases hn0
     ·exact h'
    have moved : ∀ (A : Option Addr) (cap : Nat) (old old' : List Value) (hq : Tr AObj),d' = .slice A sLen cap -> cap < sLen + n -> VRL ρ old old' -> old.length = sLen * size ->
      (Builtin.firstCells size sLen (.slice A sLen cap)).run P { w with drawn:=w.drawn + 1 } = .ok old'.toArray { w with drawn:=w.drawn + 1 } -> Rel ρ W hq nx w ->
      ∃ v' w' ρ',(Builtin.append_ argTypes ty args').run P w = .ok v' w' /\ VR ρ' (.slice (some ⟨nx,0,none⟩) (sLen + n) size) v' /\ Rel ρ' W (hq.put nx (some (.cells (old ++ new) true))) (nx + 1) w' /\ ρ.le ρ' /\ (∀ b,b < nx -> ρ' b = ρ b):=by
     intro A cap old old' hq hA hlt ho hol hfo hrq
     subst hA
     obtain ⟨new',g1,g2⟩:=qI (P:=P) h.drawn hxv hnew hsrc
     obtain ⟨newCap,k1,k2⟩:=aGX (P:=P) (elem:=elem) (base:=A) (size:=size) (x:=x') (w:=w) hi hzv c2 c3 hlt hfo g2
     obtain ⟨ρ',r1,r2,r3,r4⟩:=aDe (elem:=elem) hrq ho g1 (zero:=zero.cells) (need:=sLen + n) (newCap:=newCap) (size:=size) (by rw [hol,c5,Nat.add_mul]) k1 c1
     refine ⟨_,_,ρ',?_,r4,r1,r2,r3⟩
     rw [tD ht e0 e1 hu hz hmk hl,if_neg (by omega)]
     exact k2
    cases hd with
    | nilSlice =>
     dsimp only at hs
     cases hc0 : sLen.beq 0 && sz.beq 0 with
     | false=>rw [hc0] at hs; cases hs
     | true =>
      rw [hc0] at hs
      cases hs
      simp only [Bool.and_eq_true] at hc0
      have b1:=eq_of_beq_eq_true hc0.1
      have b2:=eq_of_beq_eq_true hc0.2
      subst b1 b2
      obtain ⟨v',w',ρ',r1,r2,r3,r4,r5⟩:=moved none 0 [] [] hp rfl (by omega) .nil (by simp) rfl h
      refine ⟨v',w',ρ',r1,by simpa using r2,by simpa using r3,r4,by omega,fun b hb hr=>⟨(r5 b hb).trans hr,?_⟩⟩
      rw [Tr.get_put,if_neg (by omega)]
    | @emptySlice b o y a' _ hrb =>
     dsimp only at hs
     split at hs
     case h_2=>cases hs
     rename_i l hb
     cases hsz : sz.beq size with
     | false=>rw [hsz] at hs; cases hs
     | true =>
      rw [hsz,cond_true] at hs
      split at hs
      case h_2=>cases hs
      rename_i old hold
      cases hs
      have hold0 : old = []:=by
       unfold iN at hold
       rw [hb] at hold
       dsimp only at hold
       rw [Nat.zero_mul] at hold
       cases hbb : (o + 0).ble l.length with
       | false=>rw [hbb] at hold; cases hold
       | true=>rw [hbb] at hold; cases hold; simp
      subst hold0
      obtain ⟨v',w',ρ',r1,r2,r3,r4,r5⟩:=moved (some a') 0 [] [] (hp.put b none) rfl (by omega) .nil (by simp) (by show (loadCells a' (0 * size)).run P _ = _; rw [Nat.zero_mul]; rfl) (h.drop b)
      refine ⟨v',w',ρ',r1,r2,r3,r4,by omega,fun k hk hr=>⟨(r5 k hk).trans hr,?_⟩⟩
      rw [Tr.get_put,if_neg (by omega),Tr.get_put,if_neg (by intro e; subst e; rw [hrb] at hr; cases hr)]
    | slice hr h3 h4 =>
     rename_i b o c s z cap
     dsimp only at hs
     split at hs
     case h_2=>cases hs
     rename_i l hb
     cases hsz : sz.beq size with
     | false=>rw [hsz] at hs; cases hs
     | true =>
      rw [hsz,cond_true] at hs
      have hsz:=eq_of_beq_eq_true hsz
      subst hsz
      split at hs
      case h_2=>cases hs
      rename_i old hold
      cases hs
      by_cases hin : sLen + n <= cap
      ·obtain ⟨new',g1,g2⟩:=qI (P:=P) h hxv hnew hsrc
       obtain ⟨old',g3,g4,g5⟩:=kN (P:=P) h hold hr
       have hnx : ρ nx = none:=by
        cases hc : ρ nx with
        | none=>rfl
        | some x=>have:=(h.dom nx x hc).1; omega
       have hle:=Place.le_set (x:=(c,s + o,z)) hnx
       have hol : ∀ (i : Nat) (v : Value),old[i]? = some v -> l[o + i]? = some v:=fun i v hv=>by
        unfold iN at hold
        rw [hb] at hold
        dsimp only at hold
        cases hbb : (o + sLen * sz).ble l.length with
        | false=>rw [hbb] at hold; cases hold
        | true =>
         rw [hbb] at hold
         cases hold
         rw [List.getElem?_take] at hv
         split at hv
         ·rw [List.getElem?_drop] at hv; exact hv
         ·cases hv
       have hmul : (sLen + n) * sz <= cap * sz:=Nat.mul_le_mul_right _ hin
       have hmul2 : (sLen + n) * sz = sLen * sz + n * sz:=Nat.add_mul _ _ _
       have hren:=h.rename (o:=o) hb hr hol (by omega)
       obtain ⟨w',k1,k2⟩:=aGE (P:=P) (o:=sLen * sz) (Place.set_same ρ nx (c,s + o,z)) (g1.mono hle) 0 _ w old hren (by rw [Tr.get_put,if_pos rfl]) (by omega) (by omega) c4
       refine ⟨.slice (some ⟨c,s + o,none⟩) (sLen + n) cap,w',ρ.set nx (c,s + o,z),?_,?_,k2.congr (fun k=>?_),hle,by omega,fun k hk hrk=>⟨by rw [Place.set_other (by omega)]; exact hrk,?_⟩⟩
       ·rw [tD ht e0 e1 hu hz hmk hl,if_pos hin]
        refine aBN (base:=some ⟨c,s + o,none⟩) (sLen:=sLen) (sCap:=cap) (w':=w') g2 ?_
        dsimp only
        rw [gP,show s + (o + sLen * sz) = s + o + sLen * sz by omega]
        exact k1
       ·have:=VR.slice (ρ:=ρ.set nx (c,s + o,z)) (o:=0) (n:=sLen + n) (sz:=sz) (cap:=cap) (Place.set_same ρ nx _) hin (by omega)
        exact this
       ·simp only [Tr.get_put]
        split <;> rfl
       ·rw [Tr.get_put,if_neg (by omega),Tr.get_put,if_neg (by intro e; subst e; rw [hr] at hrk; cases hrk)]
      ·obtain ⟨old',g3,g4,g5⟩:=kN (P:=P) h.drawn hold hr
       obtain ⟨v',w',ρ',r1,r2,r3,r4,r5⟩:=moved (some ⟨c,s + o,none⟩) cap old old' (hp.put b none) rfl (by omega) g3 g4 g5 (h.drop b)
       refine ⟨v',w',ρ',r1,r2,r3,r4,by omega,fun k hk hrk=>⟨(r5 k hk).trans hrk,?_⟩⟩
       rw [Tr.get_put,if_neg (by omega),Tr.get_put,if_neg (by intro e; subst e; rw [hr] at hrk; cases hrk)]
end Go.Proofs.YtngginofamlkkaaGreatDoor
