/-
  Put together out of several texts, each in its own namespace's block. Conditions: as each theorem states them.
-/
import Derived.Test.YtngginofamlkkaaGreatDoorQGc
import Derived.Test.YtngginofamlkkaaGreatDoorQSm
import Derived.Test.YtngginofamlkkaaGreatDoorProg
import Derived.Test.YtngginofamlkkaaGreatDoorQEvp
import Derived.WalkSpells
import Derived.WalkLawsBesides
import Derived.Deep.QuietTactic
import Derived.BigQuiet
import Derived.Lib.Bytealg
import Derived.Laws.RangeAny
import Derived.Test.YtngginofamlkkaaGreatDoorQGg
noncomputable section
namespace Go.Proofs.YtngginofamlkkaaGreatDoor
open Go Go.RowKit
open Int (tmod toNat)
open Go.IntKind (i64 u64 wrap)
open List (length mem_cons not_mem_nil)
open Nat (le_refl lt_or_ge)
set_option maxRecDepth 100000
set_option maxHeartbeats 8000000
abbrev iB (v : Vec3) : Value:=.agg #[.int .i64 v.x,.int .i64 v.y,.int .i64 v.z]
def inV (v : Vec3) (n : Int) : Prop:=(-n <= v.x /\ v.x <= n) /\ (-n <= v.y /\ v.y <= n) /\ (-n <= v.z /\ v.z <= n)
instance (v : Vec3) (n : Int) : Decidable (inV v n):=by unfold inV; infer_instance
structure VLim (v : Vec3) : Prop where
 h : inV v 1099511627776
structure Lim (n : Int) : Prop where
 h : 0 <= n /\ n <= 1099511627776
def aNc (args : List Value) (Post : Value -> Prop) : Prop:=∃ (v : Vec3) (n : Int),args = [iB v,.int .i64 n] /\ Lim n /\ Post (.bool (decide (inV v n)))
def gQ (k : Int) : Int:=if k < 0 ∨ 24 <= k then 0 else k
def aIu (args : List Value) (Post : Value -> Prop) : Prop:=match args with
 | [.int .i64 k]=>Post (.int .i64 (gQ k))
 | _=>False
def jR : Nat -> Vec3 -> Vec3
 | 0,v=>v
 | n + 1,v=>⟨-(jR n v).y,(jR n v).x,(jR n v).z⟩
def aCE (v : Vec3) (n : Int) : Vec3:=if n = 1 then ⟨v.x,-v.z,v.y⟩ else if n = 2 then ⟨v.x,-v.y,-v.z⟩ else if n = 3 then ⟨v.x,v.z,-v.y⟩ else if n = 4 then ⟨v.z,v.y,-v.x⟩ else if n = 5 then ⟨-v.z,v.y,v.x⟩ else v
def gD (v : Vec3) (k : Int) : Vec3:=aCE (jR ((gQ k).tmod 4).toNat v) ((gQ k).tdiv 4)
def aEX (args : List Value) (Post : Value -> Prop) : Prop:=∃ (v : Vec3) (k : Int),args = [iB v,.int .i64 k] /\ VLim v /\ Post (iB (gD v k))
def dW (at_ : Vec3) (k : Int) : Prop:=inV at_ 524288 /\ k = gQ k
instance (at_ : Vec3) (k : Int) : Decidable (dW at_ k):=by unfold dW; infer_instance
abbrev fY (at_ : Vec3) (k : Int) : Value:=.agg #[.int .i64 at_.x,.int .i64 at_.y,.int .i64 at_.z,.int .i64 k]
def uU (args : List Value) (Post : Value -> Prop) : Prop:=∃ (a : Vec3) (k : Int),args = [fY a k] /\ Post (.bool (decide (dW a k)))
def jZ (a : Vec3) (k : Int) (v : Vec3) : Vec3:=if ¬ inV a 1099511627776 ∨ ¬ inV v 1099511627776 then ⟨0,0,0⟩ else ⟨(gD v k).x + a.x,(gD v k).y + a.y,(gD v k).z + a.z⟩
def aFm (args : List Value) (Post : Value -> Prop) : Prop:=∃ (a : Vec3) (k : Int) (v : Vec3),args = [fY a k,iB v] /\ Post (iB (jZ a k v))
theorem e_vin (v : Vec3) (n : Int) (H : HT) (Post : PV) : vcP Tryz.prog aI 124 [] [iB v,.int .i64 n] H Post = (let q2:=T4 (Post (vb false)); let q1:=T2 (True /\ Post (vb false)); T16 (True /\ pIf (decide (v.x < wrap i64 (0 - n))) q2 (T4 (pIf (decide (v.x > n)) q1 (T8 (T2 (pIf (decide (v.y < wrap i64 (0 - n))) q2 (T4 (pIf (decide (v.y > n)) q1 (T8 (T2 (pIf (decide (v.z < wrap i64 (0 - n))) q2 (T4 (pIf (decide (v.z > n)) q1 (T4 (T2 (Post (vb true)))))))))))))))))):=by kernel_rfl
theorem e_num (n : Int) (H : HT) (Post : PV) : vcP Tryz.prog aI 125 [] [.int .i64 n] H Post = (T2 (True /\ pIf (decide (n < 0)) (T4 (Post (vi 0))) (T2 (True /\ pIf (decide (n >= 24)) (T2 (True /\ Post (vi 0))) (T4 (Post (vi n))))))):=by kernel_rfl
def vcTu : bH:=aU [⟨125,aIu⟩] aI
theorem aO9 (v : Vec3) (k : Int) (H : HT) (Post : PV) : vcP Tryz.prog vcTu 146 [(3,[1,2,4,8,9])] [iB v,.int .i64 k] H Post = (T4 (True /\ (toI (vi 4) = 0 -> False) /\ T2 ((T2 (True)) /\ HP H 146 3 (stV [(1,some (vi (gQ k))),(2,some (pt 0)),(4,some (pt 1)),(8,some (vi (tmod (gQ k) 4))),(9,some (vi 0))] [(0,some (AObj.cells [vi v.x,vi v.y,vi v.z] true)),(1,some (AObj.cells [vi 0,vi 0,vi 0] true))] 2)))):=by kernel_rfl
theorem aF8 (u v : Vec3) (k n m i : Int) (H : HT) (Post : PV) : bX Tryz.prog vcTu 146 [iB u,.int .i64 k] [(3,[1,2,4,8,9])] 3 (stV [(1,some (vi n)),(2,some (pt 0)),(4,some (pt 1)),(8,some (vi m)),(9,some (vi i))] [(0,some (.cells [.int .i64 v.x,.int .i64 v.y,.int .i64 v.z] true)),(1,some (.cells [.int .i64 0,.int .i64 0,.int .i64 0] true))] 2) H Post = (let q3:=wrap i64 (0 - v.z); let q2:=wrap i64 (0 - v.y); let q1:=T2 (True /\ True); True /\ pIf (decide (i < m)) (T8 (3 <= 3 /\ T2 (True /\ (T2 (True)) /\ HP H 146 3 (stV [(1,some (vi n)),(2,some (pt 0)),(4,some (pt 1)),(8,some (vi m)),(9,some (vi (wrap i64 (i + 1))))] [(0,some (AObj.cells [vi q2,vi v.x,vi v.z] true)),(1,some (AObj.cells [vi 0,vi 0,vi 0] true))] 2)))) (True /\ (toI (vi 4) = 0 -> False) /\ True /\ pIf (decide (wrap i64 (Int.tdiv n 4) = 1)) (T8 (True /\ 3 <= 3 /\ q1 /\ Post (Value.agg #[vi v.x,vi q3,vi v.y]))) (T2 (pIf (decide (wrap i64 (Int.tdiv n 4) = 2)) (T8 (T2 (3 <= 3 /\ q1 /\ Post (Value.agg #[vi v.x,vi q2,vi q3])))) (T2 (pIf (decide (wrap i64 (Int.tdiv n 4) = 3)) (T8 (True /\ 3 <= 3 /\ q1 /\ Post (Value.agg #[vi v.x,vi v.z,vi q2]))) (T2 (pIf (decide (wrap i64 (Int.tdiv n 4) = 4)) (T8 (True /\ 3 <= 3 /\ q1 /\ Post (Value.agg #[vi v.z,vi v.y,vi (wrap i64 (0 - v.x))]))) (T2 (pIf (decide (wrap i64 (Int.tdiv n 4) = 5)) (T8 (True /\ 3 <= 3 /\ q1 /\ Post (Value.agg #[vi q3,vi v.y,vi v.x]))) (T2 (3 <= 3 /\ q1 /\ Post (Value.agg #[vi v.x,vi v.y,vi v.z]))))))))))))):=by kernel_rfl
theorem aL9 (a : Vec3) (k : Int) (H : HT) (Post : PV) : vcP Tryz.prog (aU [⟨124,aNc⟩,⟨125,aIu⟩] aI) 53 [] [fY a k] H Post = (T4 (∃ (v : Vec3),∃ (n : Int),eqL [Value.agg #[vi a.x,vi a.y,vi a.z],vi 524288] [iB v,vi n] /\ Lim n /\ pIf (decide (inV v n)) (T8 (pIf (decide (k = gQ k)) (T2 (True /\ Post (vb true))) (T2 (True /\ Post (vb false))))) (T4 (True /\ Post (vb false))))):=by kernel_rfl
theorem aMH (a : Vec3) (k : Int) (v : Vec3) (H : HT) (Post : PV) : vcP Tryz.prog (cT Tryz.prog [145] (aU [⟨124,aNc⟩,⟨146,aEX⟩] aI) 2) 72 [] [fY a k,iB v] H Post = (let q2:=Value.agg #[vi 0,vi 0,vi 0]; let q1:=T2 (True /\ True); T4 (True /\ ∃ (v_1 : Vec3),∃ (n : Int),eqL [Value.agg #[vi a.x,vi a.y,vi a.z],vi 1099511627776] [iB v_1,vi n] /\ Lim n /\ pIf (decide (inV v_1 n)) (T2 (True /\ ∃ (v_2 : Vec3),∃ (n : Int),eqL [Value.agg #[vi v.x,vi v.y,vi v.z],vi 1099511627776] [iB v_2,vi n] /\ Lim n /\ pIf (decide (inV v_2 n)) (T4 (T2 (True /\ ∃ (v_3 : Vec3),∃ (k_1 : Int),eqL [Value.agg #[vi v.x,vi v.y,vi v.z],vi k] [iB v_3,vi k_1] /\ VLim v_3 /\ T16 (T4 (3 <= 3 /\ True /\ 3 <= 3 /\ True /\ q1 /\ Post (Value.agg #[vi (wrap i64 (Vec3.x (gD v_3 k_1) + a.x)),vi (wrap i64 (Vec3.y (gD v_3 k_1) + a.y)),vi (wrap i64 (Vec3.z (gD v_3 k_1) + a.z))])))))) (T2 (True /\ 3 <= 3 /\ q1 /\ Post q2)))) (T4 (3 <= 3 /\ q1 /\ Post q2)))):=by kernel_rfl
theorem aNg (a : Vec3) (k : Int) (H : HT) (Post : PV) : vcP Tryz.prog (cT Tryz.prog [151] aI 2) 59 [] [fY a k] H Post = (let q1:=True /\ Post (vb false); T4 (T2 (pIf (decide (a.x >= -524288)) (T4 (True /\ pIf (decide (a.x <= 524288)) (T4 (T2 (pIf (decide (a.y >= -524288)) (T4 (T2 (pIf (decide (a.y <= 524288)) (T4 (T2 (pIf (decide (a.z >= -524288)) (T4 (T2 (pIf (decide (a.z <= 524288)) (T4 (T2 (True /\ pIf (decide (k >= 0)) (T4 (True /\ pIf (decide (k <= 23)) (T2 (True /\ Post (vb true))) (T2 q1))) (T4 q1)))) (T8 q1)))) (T8 (T2 q1))))) (T8 (T4 q1))))) (T8 (T4 (T2 q1)))))) (T16 q1))) (T16 (T2 (Post (vb false))))))):=by kernel_rfl
def fQ (a b : Int) : Int:=-((-a).fdiv b)
def eL (a b : Int) : Int:=(2 * a + b).fdiv (2 * b)
structure Quo (a b : Int) : Prop where
 h : -2305843009213693952 <= a /\ a <= 2305843009213693952 /\ 1 <= b /\ b <= 1152921504606846976
def aIY (args : List Value) (Post : Value -> Prop) : Prop:=∃ a b : Int,args = [.int .i64 a,.int .i64 b] /\ Quo a b /\ Post (.tuple #[.int .i64 (a.fdiv b),.int .i64 0])
def aMy (args : List Value) (Post : Value -> Prop) : Prop:=∃ a b : Int,args = [.int .i64 a,.int .i64 b] /\ Quo a b /\ Post (.tuple #[.int .i64 (fQ a b),.int .i64 0])
def aJ0 (args : List Value) (Post : Value -> Prop) : Prop:=∃ a b : Int,args = [.int .i64 a,.int .i64 b] /\ Quo a b /\ Post (.tuple #[.int .i64 (eL a b),.int .i64 0])
theorem aQk (a b : Int) (H : HT) (Post : PV) : vcP Tryz.prog (cT Tryz.prog [147] aI 2) 211 [] [.int .i64 a,.int .i64 b] H Post = (let q3:=T8 (True /\ (T2 (True)) /\ Post (Value.tuple #[vi (wrap i64 (wrap i64 (Int.tdiv a b) - 1)),vi 0])); let q2:=T4 (T2 ((T2 (True)) /\ Post (Value.tuple #[vi (wrap i64 (Int.tdiv a b)),vi 0]))); let q1:=(b = 0 -> False) /\ T8 (T4 (pIf (!decide (tmod a b = 0)) (T2 (True /\ pIf (decide (tmod a b < 0)) (T2 (pIf (decide (b < 0)) q2 q3)) (T2 (pIf (decide (b < 0)) q3 q2)))) q2)); T8 (True /\ pIf (decide (b = 0)) (T16 (T2 (True /\ (T2 (True)) /\ Post (Value.tuple #[vi 0,vi 22])))) (T2 (True /\ pIf (decide (a = -9223372036854775808)) (T2 (True /\ pIf (decide (b = -1)) (T16 (T4 ((T2 (True)) /\ Post (Value.tuple #[vi 0,vi 21])))) (T4 ((b = 0 -> False) /\ T2 q1)))) (T4 (True /\ (b = 0 -> False) /\ T2 q1)))))):=by kernel_rfl
theorem aRX (a b : Int) (H : HT) (Post : PV) : vcP Tryz.prog (cT Tryz.prog [147] aI 2) 73 [] [.int .i64 a,.int .i64 b] H Post = (let q3:=T8 (True /\ (T2 (True)) /\ Post (Value.tuple #[vi (wrap i64 (wrap i64 (Int.tdiv a b) + 1)),vi 0])); let q2:=T4 (T2 ((T2 (True)) /\ Post (Value.tuple #[vi (wrap i64 (Int.tdiv a b)),vi 0]))); let q1:=(b = 0 -> False) /\ T8 (T4 (pIf (!decide (tmod a b = 0)) (T2 (True /\ pIf (decide (tmod a b < 0)) (T2 (pIf (decide (b < 0)) q3 q2)) (T2 (pIf (decide (b < 0)) q2 q3)))) q2)); T8 (True /\ pIf (decide (b = 0)) (T16 (T2 (True /\ (T2 (True)) /\ Post (Value.tuple #[vi 0,vi 22])))) (T2 (True /\ pIf (decide (a = -9223372036854775808)) (T2 (True /\ pIf (decide (b = -1)) (T16 (T4 ((T2 (True)) /\ Post (Value.tuple #[vi 0,vi 21])))) (T4 ((b = 0 -> False) /\ T2 q1)))) (T4 (True /\ (b = 0 -> False) /\ T2 q1)))))):=by kernel_rfl
theorem aOw (a b : Int) (H : HT) (Post : PV) : vcP Tryz.prog (cT Tryz.prog [212] (aU [⟨211,aIY⟩] aI) 2) 142 [] [.int .i64 a,.int .i64 b] H Post = (let q1:=0 - wrap u64 b; T4 (∃ (a_1 : Int),∃ (b_1 : Int),eqL [vi a,vi b] [vi a_1,vi b_1] /\ Quo a_1 b_1 /\ T8 (T4 (T2 (True /\ pIf (decide (wrap i64 (a - wrap i64 (Int.fdiv a_1 b_1 * b)) < 0)) (T8 (T2 (pIf (decide (b < 0)) (T4 (T2 (True /\ pIf (decide (wrap u64 (0 - wrap u64 (wrap i64 (a - wrap i64 (Int.fdiv a_1 b_1 * b)))) >= wrap u64 (wrap u64 q1 - wrap u64 (0 - wrap u64 (wrap i64 (a - wrap i64 (Int.fdiv a_1 b_1 * b))))))) (T4 (T2 ((T2 (True)) /\ Post (Value.tuple #[vi (wrap i64 (Int.fdiv a_1 b_1 + 1)),vi 0])))) (T2 (True /\ (T2 (True)) /\ Post (Value.tuple #[vi (Int.fdiv a_1 b_1),vi 0])))))) (T4 (T2 (pIf (decide (wrap u64 (0 - wrap u64 (wrap i64 (a - wrap i64 (Int.fdiv a_1 b_1 * b)))) >= wrap u64 (wrap u64 b - wrap u64 (0 - wrap u64 (wrap i64 (a - wrap i64 (Int.fdiv a_1 b_1 * b))))))) (T4 (T2 ((T2 (True)) /\ Post (Value.tuple #[vi (wrap i64 (Int.fdiv a_1 b_1 + 1)),vi 0])))) (T2 (True /\ (T2 (True)) /\ Post (Value.tuple #[vi (Int.fdiv a_1 b_1),vi 0]))))))))) (T8 (True /\ pIf (decide (b < 0)) (T4 (T2 (True /\ pIf (decide (wrap u64 (wrap i64 (a - wrap i64 (Int.fdiv a_1 b_1 * b))) >= wrap u64 (wrap u64 q1 - wrap u64 (wrap i64 (a - wrap i64 (Int.fdiv a_1 b_1 * b)))))) (T4 (T2 ((T2 (True)) /\ Post (Value.tuple #[vi (wrap i64 (Int.fdiv a_1 b_1 + 1)),vi 0])))) (T2 (True /\ (T2 (True)) /\ Post (Value.tuple #[vi (Int.fdiv a_1 b_1),vi 0])))))) (T4 (T2 (pIf (decide (wrap u64 (wrap i64 (a - wrap i64 (Int.fdiv a_1 b_1 * b))) >= wrap u64 (wrap u64 b - wrap u64 (wrap i64 (a - wrap i64 (Int.fdiv a_1 b_1 * b)))))) (T4 (T2 ((T2 (True)) /\ Post (Value.tuple #[vi (wrap i64 (Int.fdiv a_1 b_1 + 1)),vi 0])))) (T2 (True /\ (T2 (True)) /\ Post (Value.tuple #[vi (Int.fdiv a_1 b_1),vi 0]))))))))))))):=by kernel_rfl
theorem aNX {n : Int} (h1 : 0 <= n) (h2 : n < 18446744073709551616) : IntKind.u64.wrap n = n:=by
 have e : IntKind.u64.wrap n = n % 18446744073709551616:=by
  unfold wrap
  simp [IntKind.signed,IntKind.bits]
 rw [e]
 omega
theorem lN {a b : Int} (hb : 0 < b) : b * a.fdiv b <= a /\ a < b * a.fdiv b + b:=by
 have h1:=Int.mul_fdiv_add_fmod a b
 have h2:=Int.fmod_nonneg_of_pos a hb
 have h3:=Int.fmod_lt_of_pos a hb
 omega
theorem tQ {a b x : Int} (hb : 0 < b) (h1 : b * x <= a) (h2 : a < b * x + b) : a.fdiv b = x:=by
 obtain ⟨h3,h4⟩:=lN (a:=a) hb
 generalize a.fdiv b = f at *
 have k1 : b * x < b * (f + 1):=by rw [Int.mul_add,Int.mul_one]; omega
 have k2 : b * f < b * (x + 1):=by rw [Int.mul_add,Int.mul_one]; omega
 have:=Int.lt_of_mul_lt_mul_left k1 (by omega)
 have:=Int.lt_of_mul_lt_mul_left k2 (by omega)
 omega
theorem aPZ {a b : Int} (hb : 0 < b) : (0 <= a.fdiv b -> a.fdiv b <= a) /\ (a.fdiv b < 0 -> a <= a.fdiv b):=by
 obtain ⟨h3,h4⟩:=lN (a:=a) hb
 generalize a.fdiv b = f at *
 constructor
 ·intro h
  have:=Int.mul_le_mul_of_nonneg_right (show 1 <= b by omega) h
  omega
 ·intro h
  have:=Int.mul_le_mul_of_nonpos_right (show 1 <= b by omega) (show f + 1 <= 0 by omega)
  rw [Int.mul_add] at this
  omega
theorem aHQ {a b : Int} (hb : 0 < b) : b * a.tdiv b + a.tmod b = a /\ -b < a.tmod b /\ a.tmod b < b /\ (0 <= a -> 0 <= a.tmod b) /\ (a <= 0 -> a.tmod b <= 0):=by
 have h1:=Int.mul_tdiv_add_tmod a b
 have h2:=Int.tmod_lt_of_pos a hb
 have h3:=Int.tmod_lt_of_pos (-a) hb
 have h4 : (-a).tmod b = -(a.tmod b):=Int.neg_tmod a b
 refine ⟨h1,by omega,h2,fun h=>Int.tmod_nonneg b h,fun h=>?_⟩
 have:=Int.tmod_nonneg b (show 0 <= -a by omega)
 omega
theorem aNJ : aZ Tryz.prog ⟨211,aIY⟩:=by
 rintro args Post ⟨a,b,rfl,hq,h⟩
 refine aN (bL mixed aD 2) mixed (by kernel_rfl) (by kernel_rfl) _ (aQk a b _ _) ?_
 obtain ⟨q1,q2,q3,q4⟩:=hq.h
 obtain ⟨t1,t2,t3,t4,t5⟩:=aHQ (a:=a) (b:=b) (by omega)
 have t6 : (a.tdiv b).natAbs <= a.natAbs:=Int.natAbs_tdiv_le_natAbs a b
 have yes : ∀ x,x = a.fdiv b -> Post (.tuple #[.int .i64 x,.int .i64 0]):=fun x e=>by rw [e]; exact h
 have e1 : b * (a.tdiv b - 1) = b * a.tdiv b - b:=by rw [Int.mul_sub,Int.mul_one]
 have k0 : 0 <= a.tmod b -> Post (.tuple #[.int .i64 (IntKind.i64.wrap (a.tdiv b)),.int .i64 0]):=fun h0=>yes _ (by rw [bA (by omega) (by omega),tQ (x:=a.tdiv b) (by omega) (by omega) (by omega)])
 have k1 : a.tmod b < 0 -> Post (.tuple #[.int .i64 (IntKind.i64.wrap (IntKind.i64.wrap (a.tdiv b) - 1)),.int .i64 0]):=fun h0=>yes _ (by rw [bA (n:=a.tdiv b) (by omega) (by omega),bA (by omega) (by omega),tQ (x:=a.tdiv b - 1) (by omega) (by omega) (by omega)])
 simp only [true_and]
 repeat' (first
  | refine ifD (fun _=>?_) (fun _=>?_)
  | refine ifN (fun _=>?_) (fun _=>?_)
  | (exfalso; omega)
  | refine And.intro (fun _=>?_) ?_
  | exact k0 (by omega)
  | exact k1 (by omega))
theorem aIi {a b x : Int} (hb : 0 < b) (h1 : b * x - b < a) (h2 : a <= b * x) : fQ a b = x:=by
 unfold fQ
 rw [tQ (x:=-x) hb (by rw [Int.mul_neg]; omega) (by rw [Int.mul_neg]; omega)]
 omega
theorem aOR : aZ Tryz.prog ⟨73,aMy⟩:=by
 rintro args Post ⟨a,b,rfl,hq,h⟩
 refine aN (bL mixed aD 2) mixed (by kernel_rfl) (by kernel_rfl) _ (aRX a b _ _) ?_
 obtain ⟨q1,q2,q3,q4⟩:=hq.h
 obtain ⟨t1,t2,t3,t4,t5⟩:=aHQ (a:=a) (b:=b) (by omega)
 have t6 : (a.tdiv b).natAbs <= a.natAbs:=Int.natAbs_tdiv_le_natAbs a b
 have yes : ∀ x,x = fQ a b -> Post (.tuple #[.int .i64 x,.int .i64 0]):=fun x e=>by rw [e]; exact h
 have e1 : b * (a.tdiv b + 1) = b * a.tdiv b + b:=by rw [Int.mul_add,Int.mul_one]
 have k0 : a.tmod b <= 0 -> Post (.tuple #[.int .i64 (IntKind.i64.wrap (a.tdiv b)),.int .i64 0]):=fun h0=>yes _ (by rw [bA (by omega) (by omega),aIi (x:=a.tdiv b) (by omega) (by omega) (by omega)])
 have k1 : 0 < a.tmod b -> Post (.tuple #[.int .i64 (IntKind.i64.wrap (IntKind.i64.wrap (a.tdiv b) + 1)),.int .i64 0]):=fun h0=>yes _ (by rw [bA (n:=a.tdiv b) (by omega) (by omega),bA (by omega) (by omega),aIi (x:=a.tdiv b + 1) (by omega) (by omega) (by omega)])
 simp only [true_and]
 repeat' (first
  | refine ifD (fun _=>?_) (fun _=>?_)
  | refine ifN (fun _=>?_) (fun _=>?_)
  | (exfalso; omega)
  | refine And.intro (fun _=>?_) ?_
  | exact k0 (by omega)
  | exact k1 (by omega))
theorem aFo {a b : Int} (hq : Quo a b) : IntKind.i64.wrap (a - IntKind.i64.wrap (a.fdiv b * b)) = a - a.fdiv b * b /\ 0 <= a - a.fdiv b * b /\ a - a.fdiv b * b < b /\ -2305843009213693953 <= a.fdiv b /\ a.fdiv b <= 2305843009213693952:=by
 obtain ⟨q1,q2,q3,q4⟩:=hq.h
 obtain ⟨f1,f2⟩:=lN (a:=a) (b:=b) (by omega)
 obtain ⟨f3,f4⟩:=aPZ (a:=a) (b:=b) (by omega)
 rw [Int.mul_comm] at f1 f2
 refine ⟨?_,by omega,by omega,by omega,by omega⟩
 rw [bA (n:=a.fdiv b * b) (by omega) (by omega),bA (by omega) (by omega)]
theorem aLn {a b : Int} (hb : 0 < b) : (b <= 2 * (a - a.fdiv b * b) -> eL a b = a.fdiv b + 1) /\ (2 * (a - a.fdiv b * b) < b -> eL a b = a.fdiv b):=by
 obtain ⟨f1,f2⟩:=lN (a:=a) hb
 unfold eL
 generalize a.fdiv b = f at *
 rw [Int.mul_comm] at f1 f2
 have e1 : 2 * b * (f + 1) = 2 * (f * b) + 2 * b:=by rw [Int.mul_add,Int.mul_one,Int.mul_assoc,Int.mul_comm b f]
 have e2 : 2 * b * f = 2 * (f * b):=by rw [Int.mul_assoc,Int.mul_comm b f]
 exact ⟨fun h=>tQ (by omega) (by omega) (by omega),fun h=>tQ (by omega) (by omega) (by omega)⟩
theorem aMx : aZ Tryz.prog ⟨142,aJ0⟩:=by
 rintro args Post ⟨a,b,rfl,hq,h⟩
 refine aN (bL mixed (aM (by
  intro e he
  simp only [mem_cons,not_mem_nil,or_false] at he
  subst he
  exact aNJ) aD) 2) mixed (by kernel_rfl) (by kernel_rfl) _ (aOw a b _ _) ?_
 obtain ⟨q1,q2,q3,q4⟩:=hq.h
 obtain ⟨r1,r2,r3,r4,r5⟩:=aFo hq
 obtain ⟨g1,g2⟩:=aLn (a:=a) (b:=b) (by omega)
 simp only [true_and]
 refine ⟨a,b,rfl,hq,?_⟩
 rw [r1]
 generalize hr : a - a.fdiv b * b = r at *
 have u1 : IntKind.u64.wrap r = r:=aNX (by omega) (by omega)
 have u2 : IntKind.u64.wrap b = b:=aNX (by omega) (by omega)
 have u3 : IntKind.u64.wrap (b - r) = b - r:=aNX (by omega) (by omega)
 have w1 : IntKind.i64.wrap (a.fdiv b + 1) = a.fdiv b + 1:=bA (by omega) (by omega)
 rw [u1,u2,u3,w1]
 refine ifD (fun _=>by exfalso; omega) (fun _=>ifD (fun _=>by exfalso; omega) (fun _=>ifD (fun h1=>?_) (fun h1=>?_)))
 ·rwa [g1 (by omega)] at h
 ·rwa [g2 (by omega)] at h
theorem aLf : aZ Tryz.prog ⟨124,aNc⟩:=by
 rintro args Post ⟨v,n,rfl,hn,h⟩
 refine aN aD mixed (by kernel_rfl) (by kernel_rfl) _ (e_vin v n _ _) ?_
 have hl:=hn.h
 have yes : inV v n -> Post (.bool true):=fun hp=>by rwa [decide_eq_true hp] at h
 have no : ¬ inV v n -> Post (.bool false):=fun hp=>by rwa [decide_eq_false hp] at h
 have w1 : IntKind.i64.wrap (0 - n) = -n:=by rw [bA (by omega) (by omega)]; omega
 simp only [true_and,w1]
 unfold inV at yes no
 repeat' (first
  | refine ifD (fun _=>?_) (fun _=>?_)
  | exact yes (by omega)
  | exact no (by omega))
theorem aNQ : aZ Tryz.prog ⟨125,aIu⟩:=by
 intro args Post hc
 unfold aIu at hc
 dsimp only at hc
 split at hc
 case h_2=>exact hc.elim
 rename_i n
 refine aN aD mixed (by kernel_rfl) (by kernel_rfl) _ (e_num n _ _) ?_
 unfold gQ at hc
 simp only [true_and]
 refine ifD (fun h1=>?_) (fun h1=>ifD (fun h2=>?_) (fun h2=>?_))
 ·rwa [if_pos (by omega)] at hc
 ·rwa [if_pos (by omega)] at hc
 ·rwa [if_neg (by omega)] at hc
theorem aQo {n : Int} (h1 : -1099511627776 <= n) (h2 : n <= 1099511627776) : IntKind.i64.wrap (0 - n) = -n:=by
 rw [bA (by omega) (by omega)]; omega
theorem qB {v : Vec3} (h : VLim v) : ∀ n,VLim (jR n v)
 | 0=>h
 | n + 1=>by
  have:=(qB h n).h
  unfold inV at this
  constructor
  unfold jR inV
  dsimp only
  omega
theorem aKw (k : Int) : 0 <= gQ k /\ gQ k < 24:=by
 unfold gQ
 split <;> omega
theorem tdiv4 {n : Int} (h1 : 0 <= n) (h2 : n < 24) : 0 <= n.tdiv 4 /\ n.tdiv 4 < 6 /\ 0 <= n.tmod 4 /\ n.tmod 4 < 4 /\ IntKind.i64.wrap (n.tdiv 4) = n.tdiv 4:=by
 have e:=aHQ (a:=n) (b:=4) (by decide)
 refine ⟨by omega,by omega,by omega,by omega,bA (by omega) (by omega)⟩
theorem aKH {v : Vec3} (_ : VLim v) {n : Int} {Post : Value -> Prop} (h : Post (iB (aCE v n))) :
  pIf (decide (n = 1)) (Post (iB ⟨v.x,-v.z,v.y⟩)) (pIf (decide (n = 2)) (Post (iB ⟨v.x,-v.y,-v.z⟩)) (pIf (decide (n = 3)) (Post (iB ⟨v.x,v.z,-v.y⟩)) (pIf (decide (n = 4)) (Post (iB ⟨v.z,v.y,-v.x⟩)) (pIf (decide (n = 5)) (Post (iB ⟨-v.z,v.y,v.x⟩)) (Post (iB v)))))):=by
 unfold aCE at h
 refine ifD (fun h1=>?_) (fun h1=>?_)
 ·rwa [if_pos h1] at h
 rw [if_neg h1] at h
 refine ifD (fun h2=>?_) (fun h2=>?_)
 ·rwa [if_pos h2] at h
 rw [if_neg h2] at h
 refine ifD (fun h3=>?_) (fun h3=>?_)
 ·rwa [if_pos h3] at h
 rw [if_neg h3] at h
 refine ifD (fun h4=>?_) (fun h4=>?_)
 ·rwa [if_pos h4] at h
 rw [if_neg h4] at h
 refine ifD (fun h5=>?_) (fun h5=>?_)
 ·rwa [if_pos h5] at h
 ·rwa [if_neg h5] at h
theorem aJK : aZ Tryz.prog ⟨146,aEX⟩:=by
 rintro args Post ⟨v,k,rfl,hv,h⟩
 have hok : aW Tryz.prog vcTu:=aM (by
  intro e he
  simp only [mem_cons,not_mem_nil,or_false] at he
  subst he
  exact aNQ) aD
 refine aN hok mixed (by kernel_rfl) (by kernel_rfl) _ (aO9 v k _ _) ?_
 obtain ⟨t1,t2⟩:=aKw k
 obtain ⟨d1,d2,d3,d4,d5⟩:=tdiv4 t1 t2
 obtain ⟨m,hm⟩:=Int.eq_ofNat_of_zero_le d3
 simp only [true_and,aQ]
 refine ⟨fun h=>by omega,?_⟩
 rw [hm]
 unfold gD at h
 rw [hm,Int.toNat_natCast] at h
 refine cS (n:=m) (p:=fun i=>OkP 146 [iB v,.int .i64 k] 3 Post (stV [(1,some (vi (gQ k))),(2,some (pt 0)),(4,some (pt 1)),(8,some (vi m)),(9,some (vi i))] [(0,some (.cells [.int .i64 (jR i v).x,.int .i64 (jR i v).y,.int .i64 (jR i v).z] true)),(1,some (.cells [.int .i64 0,.int .i64 0,.int .i64 0] true))] 2)) ?_ (fun i i1 ih=>?_)
 ·refine aV hok mixed _ (aF8 v (jR m v) k (gQ k) m m _ _) ?_
  have hq:=(qB hv m).h
  unfold inV at hq
  simp only [true_and,aQ,d5,aQo (n:=(jR m v).x) (by omega) (by omega),aQo (n:=(jR m v).y) (by omega) (by omega),aQo (n:=(jR m v).z) (by omega) (by omega),show (3 <= 3) = True from eq_true (by decide)]
  exact ifD (fun hlt=>by omega) (fun _=>⟨fun h=>by omega,aKH (qB hv m) h⟩)
 ·refine aV hok mixed _ (aF8 v (jR i v) k (gQ k) m i _ _) ?_
  have hq:=(qB hv i).h
  unfold inV at hq
  simp only [true_and,aQo (n:=(jR i v).y) (by omega) (by omega),aJ (show i < 2 ^ 62 by omega)]
  exact ifD (fun _=>⟨by decide,ih⟩) (fun h'=>by omega)
theorem aK7 : aZ Tryz.prog ⟨53,uU⟩:=by
 rintro args Post ⟨a,k,rfl,h⟩
 refine aN (aM (by
  intro e he
  simp only [mem_cons,not_mem_nil,or_false] at he
  rcases he with rfl | rfl
  ·exact aLf
  ·exact aNQ) aD) mixed (by kernel_rfl) (by kernel_rfl) _ (aL9 a k _ _) ?_
 simp only [true_and]
 refine ⟨a,524288,rfl,⟨by decide⟩,ifD (fun h1=>ifD (fun h2=>?_) (fun h2=>?_)) (fun h1=>?_)⟩
 ·rwa [decide_eq_true (show dW a k from ⟨h1,h2⟩)] at h
 ·rwa [decide_eq_false (fun hp : dW a k=>h2 hp.2)] at h
 ·rwa [decide_eq_false (fun hp : dW a k=>h1 hp.1)] at h
theorem aJZ : aZ Tryz.prog ⟨59,uU⟩:=by
 rintro args Post ⟨a,k,rfl,h⟩
 refine aN (bL mixed aD 2) mixed (by kernel_rfl) (by kernel_rfl) _ (aNg a k _ _) ?_
 simp only [true_and]
 have yes : dW a k -> Post (.bool true):=fun hp=>by rwa [decide_eq_true hp] at h
 have no : ¬ dW a k -> Post (.bool false):=fun hp=>by rwa [decide_eq_false hp] at h
 unfold dW inV gQ at yes no
 repeat' (first
  | refine ifD (fun _=>?_) (fun _=>?_)
  | exact yes ⟨by omega,by rw [if_neg (by omega)]⟩
  | exact no (fun hp=>by
    obtain ⟨h1,h2⟩:=hp
    split at h2 <;> omega))
theorem aOW {v : Vec3} (h : VLim v) (n : Int) : VLim (aCE v n):=by
 have:=h.h
 unfold inV at this
 constructor
 unfold aCE inV
 repeat' split
 all_goals ((try dsimp only); omega)
theorem aQb {v : Vec3} (h : VLim v) (k : Int) : VLim (gD v k):=aOW (qB h _) _
theorem aHv {a v : Vec3} {k : Int} (ha : inV a 1099511627776) (hv : inV v 1099511627776) {Post : Value -> Prop} (h : Post (iB (jZ a k v))) :
  Post (.agg #[.int .i64 (IntKind.i64.wrap ((gD v k).x + a.x)),.int .i64 (IntKind.i64.wrap ((gD v k).y + a.y)),.int .i64 (IntKind.i64.wrap ((gD v k).z + a.z))]):=by
 unfold jZ at h
 rw [if_neg (by rintro (h | h); exact h ha; exact h hv)] at h
 have h1:=(aQb ⟨hv⟩ k).h
 have h2:=ha
 unfold inV at h1 h2
 rw [bA (n:=(gD v k).x + a.x) (by omega) (by omega),bA (n:=(gD v k).y + a.y) (by omega) (by omega),bA (n:=(gD v k).z + a.z) (by omega) (by omega)]
 exact h
theorem aA3 {a v : Vec3} {k : Int} (hn : ¬ inV a 1099511627776 ∨ ¬ inV v 1099511627776) {Post : Value -> Prop} (h : Post (iB (jZ a k v))) : Post (.agg #[.int .i64 0,.int .i64 0,.int .i64 0]):=by
 unfold jZ at h
 rw [if_pos hn] at h
 exact h
theorem aKI : aZ Tryz.prog ⟨72,aFm⟩:=by
 rintro args Post ⟨a,k,v,rfl,h⟩
 refine aN (bL mixed (aM (by
  intro e he
  simp only [mem_cons,not_mem_nil,or_false] at he
  rcases he with rfl | rfl
  ·exact aLf
  ·exact aJK) aD) 2) mixed (by kernel_rfl) (by kernel_rfl) _ (aMH a k v _ _) ?_
 simp only [true_and]
 refine ⟨a,1099511627776,rfl,⟨by decide⟩,ifD (fun h1=>⟨v,1099511627776,rfl,⟨by decide⟩,ifD (fun h2=>⟨v,k,rfl,⟨h2⟩,by decide,by decide,aHv h1 h2 h⟩) (fun h2=>⟨by decide,aA3 (.inr h2) h⟩)⟩) (fun h1=>⟨by decide,aA3 (.inl h1) h⟩)⟩
theorem aOH {ρ : Place} {l l' : List Value} (hl : l.all dK = true) (h : VRL ρ l l') : l' = l:=by
 refine List.ext_getElem? fun i=>?_
 have hlen:=h.len
 rcases lt_or_ge i l.length with hi | hi
 ·have h1 : l[i]? = some l[i]:=List.getElem?_eq_getElem hi
  have h2 : l'[i]? = some (l'[i]'(by omega)):=List.getElem?_eq_getElem (by omega)
  have hr:=h.get h1 h2
  rw [h1,h2,rT (List.all_eq_true.1 hl _ (List.getElem_mem hi)) hr]
 ·rw [List.getElem?_eq_none hi,List.getElem?_eq_none (by omega)]
theorem sF {P : Program} {f : FuncId} {args : List Value} {Post : Value -> Prop} {v : Value} (ha : args.all dK = true) (hv : nl1 v = true) (hr : ∀ ρ,VR ρ v v) (h : ∀ w,Calls P f args.toArray w fun e w'=>e = .returned v /\ w' = w) (hP : Post v) : Pure P f args Post:=by
 intro W ρ w args' hrel hargs
 obtain rfl:=aOH ha hargs
 refine (h w).mono fun e w' ⟨he,hw⟩=>?_
 subst he hw
 exact ⟨v,.e,0,v,ρ,hP,rfl,fF hv (hr ρ),hrel,.refl _ _⟩
def dot : ByteArray:=⟨#[46]⟩
theorem aOs (s : ByteArray) (w : World) : (callFunc 247 #[.string s,.int .u8 46]).run Tryz.prog w = .ok (.value (.int .i64 (Lib.countByte s.data.toList 46))) w:=by
 rw [run_callFunc_extern Tryz.func247 (by kernel_rfl) (by kernel_rfl) (by kernel_rfl) (e:=Extern.BytealgCount.count) (by kernel_rfl),Lib.run_countString]
 rfl
theorem aP0 (s : ByteArray) (w : World) : (callFunc 269 #[.string s,.int .u8 46]).run Tryz.prog w = .ok (.value (.int .i64 (Lib.indexByte s.data.toList 46))) w:=by
 rw [run_callFunc_extern Tryz.func269 (by kernel_rfl) (by kernel_rfl) (by kernel_rfl) (e:=Extern.BytealgIndexByte.indexByte) (by kernel_rfl),Lib.run_indexByteString]
 rfl
set_option maxHeartbeats 1000000 in
theorem aHN (s : ByteArray) (w : World) : Calls Tryz.prog 225 #[.string s,.string dot] w fun e w'=>e = .returned (.int .i64 (Lib.countByte s.data.toList 46)) /\ w' = w:=by
 unfold dot
 go_enter Tryz.func225,Tryz.ntmps225
 go_wp2
 erw [aOs]
 go_wp2
 go_ret
 exact ⟨rfl,rfl⟩
set_option maxHeartbeats 1000000 in
theorem aHR (s : ByteArray) (w : World) : Calls Tryz.prog 260 #[.string s,.int .u8 46] w fun e w'=>e = .returned (.int .i64 (Lib.indexByte s.data.toList 46)) /\ w' = w:=by
 go_enter Tryz.func260,Tryz.ntmps260
 go_wp2
 rw [aP0]
 go_wp2
 go_ret
 exact ⟨rfl,rfl⟩
def aLK (args : List Value) (Post : Value -> Prop) : Prop:=match args with
 | [.string s,.string d]=>d = dot /\ Post (.int .i64 (Lib.countByte s.data.toList 46))
 | _=>False
def aLu (args : List Value) (Post : Value -> Prop) : Prop:=match args with
 | [.string s,.int .u8 k]=>k = 46 /\ Post (.int .i64 (Lib.indexByte s.data.toList 46))
 | _=>False
theorem aSf : aZ Tryz.prog ⟨225,aLK⟩:=by
 intro args Post h
 unfold aLK at h
 dsimp only at h
 split at h
 ·obtain ⟨rfl,h⟩:=h
  exact sF rfl rfl (fun ρ=>.int _ _) (fun w=>aHN _ w) h
 ·exact h.elim
theorem aQV : aZ Tryz.prog ⟨260,aLu⟩:=by
 intro args Post h
 unfold aLu at h
 dsimp only at h
 split at h
 ·obtain ⟨rfl,h⟩:=h
  exact sF rfl rfl (fun ρ=>.int _ _) (fun w=>aHR _ w) h
 ·exact h.elim
def be : Nat -> Nat -> List UInt8
 | 0,_=>[]
 | n + 1,v=>UInt8.ofNat (v / 256 ^ n) :: be n v
def hd (k v : Nat) : List UInt8 :=
 if v < 24 then [UInt8.ofNat (32 * k + v)]
 else if v < 256 then UInt8.ofNat (32 * k + 24) :: be 1 v
 else if v < 65536 then UInt8.ofNat (32 * k + 25) :: be 2 v
 else if v < 4294967296 then UInt8.ofNat (32 * k + 26) :: be 4 v
 else UInt8.ofNat (32 * k + 27) :: be 8 v
def b8 (x : UInt8) : Value:=.int .u8 x.toNat
def str (l : List UInt8) : ByteArray:=⟨l.toArray⟩
theorem aDS {a b : ByteArray} (h : a.data.toList = b.data.toList) : a = b:=by
 cases a; cases b; congr 1; exact Array.toList_inj.1 h
def nZ (s : ByteArray) : UInt8:=Array.getD s.data 0 0
def ofBE (l : List UInt8) : Nat:=l.foldl (fun v b=>256 * v + b.toNat) 0
def pk (s : ByteArray) (one two : Nat) : Nat × Nat × Nat × Nat :=
 if s.size = 0 then (0,0,0,3)
 else if ((nZ s).toNat / 32 ≠ one /\ (nZ s).toNat / 32 ≠ two) ∨ (nZ s).toNat % 32 > 27 then (0,0,0,5)
 else if (nZ s).toNat % 32 < 24 then ((nZ s).toNat / 32,(nZ s).toNat % 32,1,0)
 else if s.size < 1 + 2 ^ ((nZ s).toNat % 32 - 24) then (0,0,0,3)
 else if str (hd ((nZ s).toNat / 32) (ofBE (s.extract 1 (1 + 2 ^ ((nZ s).toNat % 32 - 24))).data.toList)) ≠ s.extract 0 (1 + 2 ^ ((nZ s).toNat % 32 - 24)) then (0,0,0,5)
 else ((nZ s).toNat / 32,ofBE (s.extract 1 (1 + 2 ^ ((nZ s).toNat % 32 - 24))).data.toList,1 + 2 ^ ((nZ s).toNat % 32 - 24),0)
def aQv (p : Part) : Prop:=p.id.size <= 200 /\ p.node.size <= 200 /\ p.grade.size <= 200 /\ p.sect.size <= 200 /\ p.outer.length <= 40 /\ p.holes.length <= 12 /\ ∀ h ∈ p.holes,h.length <= 40
instance (p : Part) : Decidable (aQv p):=by unfold aQv; infer_instance
theorem Vec3.ext' {p q : Vec3} (h1 : p.x = q.x) (h2 : p.y = q.y) (h3 : p.z = q.z) : p = q:=by
 cases p; cases q; cases h1; cases h2; cases h3; rfl
theorem Part.ext' {p q : Part} (h1 : p.id = q.id) (h2 : p.rev = q.rev) (h3 : p.kind = q.kind) (h4 : p.node = q.node) (h5 : p.grade = q.grade) (h6 : p.thick = q.thick) (h7 : p.outer = q.outer) (h8 : p.holes = q.holes) (h9 : p.sect = q.sect)
  (h10 : p.long = q.long) (h11 : p.mass = q.mass) (h12 : p.centre = q.centre) (h13 : p.at_ = q.at_) (h14 : p.turn = q.turn) : p = q:=by
 cases p; cases q
 simp only at h1 h2 h3 h4 h5 h6 h7 h8 h9 h10 h11 h12 h13 h14
 simp only [h1,h2,h3,h4,h5,h6,h7,h8,h9,h10,h11,h12,h13,h14]
theorem nN (s : ByteArray) (a b : Nat) : (s.extract a b).data.toList = (s.data.toList.drop a).take (b - a):=by
 rw [ByteArray.data_extract,Array.toList_extract]
def wI : bH:=cT Tryz.prog [226,248] (aU [⟨225,aLK⟩,⟨260,aLu⟩] aI) 3
theorem wP : aW Tryz.prog wI:=bL mixed (aM (by
 intro e he
 simp only [mem_cons,not_mem_nil,or_false] at he
 rcases he with rfl | rfl
 ·exact aSf
 ·exact aQV) aD) 3
theorem e_gs (s : ByteArray) (H : HT) (Post : PV) : vcP Tryz.prog wI 193 [(11,[0,1,2,3,9,10])] [.string s,.string dot,.int .i64 0,.int .i64 (-1)] H Post = (let q3:=((↑s.size : Int) + 1); let q2:=((↑(Lib.countByte (Array.toList (ByteArray.data s)) 46) : Int) + 1); let q1:=if wrap i64 q3 < wrap i64 q2 then wrap i64 q3 else wrap i64 q2; T8 (True /\ dot = dot /\ T8 (True /\ ((0 <= if wrap i64 q3 < wrap i64 q2 then wrap i64 q3 else wrap i64 q2) /\ (q1 <= if wrap i64 q3 < wrap i64 q2 then wrap i64 q3 else wrap i64 q2) /\ q1 <= 2 ^ 25) /\ T4 (T2 ((NLs (iE q1.toNat [vz]) /\ True) /\ HP H 193 11 (stV [(0,some (vs s)),(1,some (vs dot)),(2,some (vi 0)),(3,some (vi (wrap i64 (q1 - 1)))),(9,some (Value.slice (some (Addr.mk 0 0 none)) q1.toNat 1)),(10,some (vi 0))] [(0,some (AObj.cells (iE q1.toNat [vz]) true))] 1)))))):=by kernel_rfl
theorem l_gs (s r : ByteArray) (L : List Value) (N : Nat) (c i : Int) (H : HT) (Post : PV) : bX Tryz.prog wI 193 [.string s,.string dot,.int .i64 0,.int .i64 (-1)] [(11,[0,1,2,3,9,10])] 11 (stV [(0,some (.string r)),(1,some (.string dot)),(2,some (vi 0)),(3,some (vi c)),(9,some (.slice (some ⟨0,0,none⟩) N 1)),(10,some (vi i))] [(0,some (.cells L true))] 1) H Post = (let q3:=wrap i64 (i + 1); let q12:=toNat q3 - 0; let q5:=0 + toNat i * 1; let q11:=cP L q5 [vs r]; let q10:=(0 <= i /\ i < (↑N : Int)); let q9:=cP L q5 [vs (ByteArray.extract r 0 0)]; let q8:=(9,some (Value.slice (some (Addr.mk 0 0 none)) N 1)); let q4:=Array.toList (ByteArray.data r); let q2:=wrap i64 (Lib.indexByte q4 46 + 0); let q7:=cP L q5 [vs (ByteArray.extract r 0 q2.toNat)]; let q6:=(Lib.indexByte q4 46 + (↑1 : Int)); let q1:=T2 (True /\ q10 /\ 0 + toNat i * 1 + 1 <= length L /\ T2 (True /\ (0 <= wrap i64 (i + 1) /\ True /\ 0 <= toNat q3 /\ toNat q3 <= N) /\ True /\ (0 + q12 * 1 <= length q11 /\ NLs (List.drop 0 q11)) /\ Post (tree 1 q12 (bP 1 q12 (List.drop 0 q11))))); T2 (True /\ pIf (decide (i < c)) (T8 (T4 (T2 (True /\ pIf (decide (dot = r)) (T8 (T4 (True /\ (toI (vi 0) <= wrap i64 (0 + 0) /\ True /\ 0 <= 0 /\ 0 <= r.size) /\ q10 /\ 0 + toNat i * 1 + 1 <= length L /\ T4 (True /\ (True /\ toI (vi 0) <= wrap i64 (0 + (↑dot.size : Int)) /\ 1 <= r.size /\ r.size <= r.size) /\ T4 (True /\ (NLs q9 /\ True) /\ HP H 193 11 (stV [(0,some (vs (ByteArray.extract r 1 r.size))),(1,some (vs dot)),(2,some (vi 0)),(3,some (vi c)),q8,(10,some (vi q3))] [(0,some (AObj.cells q9 true))] 1)))))) (T4 (T2 (True /\ (toI (vi 0) <= 0 /\ toI (vi 0) < (↑dot.size : Int)) /\ toI (vi (↑(UInt8.toNat (Array.getD (ByteArray.data dot) (toNat 0) 0)) : Int)) = 46 /\ T4 (True /\ pIf (decide (Lib.indexByte q4 46 < 0)) q1 (T4 (T2 ((0 <= wrap i64 (Lib.indexByte q4 46 + 0) /\ True /\ 0 <= toNat q2 /\ toNat q2 <= r.size) /\ q10 /\ 0 + toNat i * 1 + 1 <= length L /\ T4 (True /\ (True /\ 0 <= wrap i64 q6 /\ toNat (wrap i64 q6) <= r.size /\ r.size <= r.size) /\ T4 (True /\ (NLs q7 /\ True) /\ HP H 193 11 (stV [(0,some (vs (ByteArray.extract r (toNat (wrap i64 q6)) r.size))),(1,some (vs dot)),(2,some (vi 0)),(3,some (vi c)),q8,(10,some (vi q3))] [(0,some (AObj.cells q7 true))] 1)))))))))))))) q1)):=by kernel_rfl
def fZ : List UInt8 -> List (List UInt8)
 | []=>[[]]
 | c :: l=>if c = 46 then [] :: fZ l else match fZ l with
  | p :: ps=>(c :: p) :: ps
  | []=>[[c]]
def cC (s : ByteArray) : List ByteArray:=(fZ s.data.toList).map fun l=>⟨l.toArray⟩
theorem yK : ∀ {l : List UInt8},Lib.countByte l 46 = 0 -> fZ l = [l]
 | [],_=>rfl
 | c :: l,h=>by
  unfold Lib.countByte at h
  rw [List.count_cons] at h
  by_cases hc : c = 46
  ·subst hc; simp at h
  ·have h0 : Lib.countByte l 46 = 0:=by unfold Lib.countByte; omega
   simp only [fZ,hc,if_false,yK h0]
theorem aI4 : ∀ {l : List UInt8},Lib.indexByte l 46 < 0 -> Lib.countByte l 46 = 0
 | [],_=>rfl
 | c :: l,h=>by
  unfold Lib.indexByte at h
  by_cases hc : c = 46
  ·subst hc; simp at h
  ·have hb : (c == 46) = false:=by simp [hc]
   rw [hb] at h
   simp only [Bool.false_eq_true,if_false] at h
   have hge:=Lib.indexByte_ge l 46
   split at h
   ·rename_i h1
    have ih:=aI4 (l:=l) (by rw [beq_iff_eq] at h1; omega)
    unfold Lib.countByte at ih ⊢
    rw [List.count_cons,ih,hb]
    rfl
   ·rename_i h1
    simp only [beq_iff_eq] at h1
    omega
theorem aJl : ∀ {l : List UInt8} {m : Nat},Lib.indexByte l 46 = m -> m < l.length /\ fZ l = l.take m :: fZ (l.drop (m + 1)) /\ Lib.countByte l 46 = Lib.countByte (l.drop (m + 1)) 46 + 1
 | [],m,h=>by simp [Lib.indexByte] at h
 | c :: l,m,h=>by
  unfold Lib.indexByte at h
  by_cases hc : c = 46
  ·subst hc
   simp only [beq_self_eq_true,if_true] at h
   obtain rfl : m = 0:=by omega
   refine ⟨by simp,by simp [fZ],?_⟩
   unfold Lib.countByte
   simp
  ·have hb : (c == 46) = false:=by simp [hc]
   rw [hb] at h
   simp only [Bool.false_eq_true,if_false] at h
   split at h
   ·omega
   ·rename_i h1
    simp only [beq_iff_eq] at h1
    have hge:=Lib.indexByte_ge l 46
    obtain ⟨k,rfl⟩ : ∃ k,m = k + 1:=⟨m - 1,by omega⟩
    obtain ⟨i1,i2,i3⟩:=aJl (l:=l) (m:=k) (by omega)
    refine ⟨by simp; omega,?_,?_⟩
    ·simp only [fZ,hc,if_false,i2,List.take_succ_cons,List.drop_succ_cons]
    ·unfold Lib.countByte at i3 ⊢
     rw [List.count_cons,hb,List.drop_succ_cons]
     simpa using i3
theorem sY : ∀ l : List UInt8,(fZ l).length = Lib.countByte l 46 + 1
 | []=>rfl
 | c :: l=>by
  have ih:=sY l
  unfold Lib.countByte at ih ⊢
  rw [List.count_cons]
  by_cases hc : c = 46
  ·subst hc; simp [fZ,ih]
  ·have hb : (c == 46) = false:=by simp [hc]
   simp only [fZ,hc,if_false,hb,Bool.false_eq_true,Nat.add_zero]
   split
   ·rename_i p ps hp
    rw [hp] at ih
    simpa using ih
   ·rename_i hp
    rw [hp] at ih
    simp at ih
theorem yJ {r : ByteArray} (h : Lib.countByte r.data.toList 46 = 0) : cC r = [r]:=by
 unfold cC
 rw [yK h]
 simp
theorem qA {r : ByteArray} {m : Nat} (h : Lib.indexByte r.data.toList 46 = m) : m < r.size /\ cC r = r.extract 0 m :: cC (r.extract (m + 1) r.size) /\ Lib.countByte r.data.toList 46 = Lib.countByte (r.extract (m + 1) r.size).data.toList 46 + 1:=by
 obtain ⟨h1,h2,h3⟩:=aJl h
 have hl : r.data.toList.length = r.size:=by rw [Array.length_toList]; rfl
 have e : (r.extract (m + 1) r.size).data.toList = r.data.toList.drop (m + 1):=by rw [nN,List.take_of_length_le (by rw [List.length_drop,hl]; omega)]
 refine ⟨by omega,?_,by rw [e]; exact h3⟩
 unfold cC
 rw [e,h2,List.map_cons]
 congr 1
 have : (r.extract 0 m).data.toList = r.data.toList.take m:=by rw [nN,List.drop_zero,Nat.sub_zero]
 rw [← this]
theorem aGc (s : ByteArray) (a : Nat) : (s.extract a s.size).size = s.size - a:=by
 rw [ByteArray.size_extract]; omega
theorem aNU (l : List ByteArray) : aB l = (l.map Value.string).toArray:=rfl
theorem aGt {L : List Value} {k : Nat} {v : Value} (h : k < L.length) : (L.set k v).take (k + 1) = L.take k ++ [v]:=by
 rw [List.take_succ_eq_append_getElem (by simpa using h),List.getElem_set_self]
 congr 1
 refine List.ext_getElem? fun i=>?_
 simp only [List.getElem?_take]
 split
 ·rw [List.getElem?_set_ne (by omega)]
 ·rfl
theorem zH {L : List Value} {k : Nat} {v : Value} (h : NLs L) (hv : nl1 v = true) : NLs (L.set k v):=fun u hu=>by
 rcases List.mem_or_eq_of_mem_set hu with hu | rfl
 ·exact h u hu
 ·exact hv
def c_gs (args : List Value) (Post : Value -> Prop) : Prop:=∃ s : ByteArray,args = [.string s,.string dot,.int .i64 0,.int .i64 (-1)] /\ s.size < 16777216 /\ Post (tree 1 (cC s).length (aB (cC s)))
theorem ok_gs : aZ Tryz.prog ⟨193,c_gs⟩:=by
 rintro args Post ⟨s,rfl,hs,h⟩
 refine aN (vc:=wI) wP mixed (by kernel_rfl) (by kernel_rfl) _ (e_gs s _ _) ?_
 have hcl : Lib.countByte s.data.toList 46 <= s.size:=by
  have h1:=List.count_le_length (a:=(46 : UInt8)) (l:=s.data.toList)
  have hl : s.data.toList.length = s.size:=by rw [Array.length_toList]; rfl
  unfold Lib.countByte
  omega
 have hlen : (cC s).length = Lib.countByte s.data.toList 46 + 1:=by unfold cC; rw [List.length_map,sY]
 have key : ∀ (n k : Nat) (r : ByteArray) (done : List ByteArray) (L : List Value),n + k = Lib.countByte s.data.toList 46 -> done.length = k -> done ++ cC r = cC s -> L.length = Lib.countByte s.data.toList 46 + 1 -> L.take k = done.map Value.string -> NLs L -> k + Lib.countByte r.data.toList 46 = Lib.countByte s.data.toList 46 -> r.size <= s.size ->
   OkP 193 [.string s,.string dot,.int .i64 0,.int .i64 (-1)] 11 Post (stV [(0,some (.string r)),(1,some (.string dot)),(2,some (vi 0)),(3,some (vi (Lib.countByte s.data.toList 46 : Nat))),(9,some (.slice (some ⟨0,0,none⟩) (Lib.countByte s.data.toList 46 + 1) 1)),(10,some (vi k))] [(0,some (.cells L true))] 1):=by
  intro n
  induction n with
  | zero =>
   intro k r done L hk hd hp hL ht hn hr hrs
   have hc0 : Lib.countByte r.data.toList 46 = 0:=by omega
   refine aV (vc:=wI) wP mixed _ (l_gs s r L _ _ _ _ _) ?_
   simp only [true_and]
   refine aE (fun hh=>?_) (fun _=>?_)
   ·have:=of_decide_eq_true hh; omega
   rw [aJ (by omega)]
   have eN : ((k + 1 : Nat) : Int).toNat = k + 1:=by omega
   have ek : (k : Int).toNat = k:=by omega
   have eset : cP L (0 + (k : Int).toNat * 1) [Value.string r] = L.set k (.string r):=by rw [ek,Nat.zero_add,Nat.mul_one]; rfl
   rw [eset,eN,List.drop_zero,Nat.sub_zero]
   have epc : cC s = done ++ [r]:=by rw [← hp,yJ hc0]
   have efin : bP 1 (k + 1) (L.set k (.string r)) = aB (cC s):=by
    show ((L.set k (Value.string r)).take (k + 1)).toArray = _
    rw [aGt (by omega),ht,epc,aNU,List.map_append]
    rfl
   rw [efin]
   have elen : (cC s).length = k + 1:=by rw [hlen]; omega
   rw [elen] at h
   refine ⟨⟨by omega,by omega⟩,by rw [ek]; omega,⟨by omega,by omega,by omega⟩,⟨by rw [List.length_set]; omega,zH hn rfl⟩,?_⟩
   exact h
  | succ n ih =>
   intro k r done L hk hd hp hL ht hn hr hrs
   refine aV (vc:=wI) wP mixed _ (l_gs s r L _ _ _ _ _) ?_
   simp only [true_and]
   have eN : ((k + 1 : Nat) : Int).toNat = k + 1:=by omega
   have ek : (k : Int).toNat = k:=by omega
   refine aE (fun _=>?_) (fun hh=>?_)
   case refine_2=>have:=of_decide_eq_false hh; omega
   have eset : ∀ v,cP L (0 + (k : Int).toNat * 1) [v] = L.set k v:=fun v=>by rw [ek,Nat.zero_add,Nat.mul_one]; rfl
   simp only [eset]
   rw [aJ (by omega)]
   have step : ∀ m : Nat,Lib.indexByte r.data.toList 46 = m -> OkP 193 [.string s,.string dot,.int .i64 0,.int .i64 (-1)] 11 Post (stV [(0,some (.string (r.extract (m + 1) r.size))),(1,some (.string dot)),(2,some (vi 0)),(3,some (vi (Lib.countByte s.data.toList 46 : Nat))),(9,some (.slice (some ⟨0,0,none⟩) (Lib.countByte s.data.toList 46 + 1) 1)),(10,some (vi ((k + 1 : Nat) : Int)))] [(0,some (.cells (L.set k (.string (r.extract 0 m))) true))] 1):=fun m hm=>by
    obtain ⟨g1,g2,g3⟩:=qA hm
    refine ih (k + 1) _ (done ++ [r.extract 0 m]) _ (by omega) (by simp [hd]) (by rw [← hp,g2]; simp) (by rw [List.length_set]; exact hL) ?_ (zH hn rfl) (by omega) ?_
    ·rw [aGt (by omega),ht,List.map_append]; rfl
    ·have:=aGc r (m + 1)
     omega
   have hz : (IntKind.i64.wrap (0 + 0)) = 0:=by decide
   refine aE (fun hh=>?_) (fun hh=>?_)
   ·obtain rfl:=of_decide_eq_true hh
    have hm : Lib.indexByte dot.data.toList 46 = ((0 : Nat) : Int):=by decide
    have:=step 0 hm
    refine ⟨⟨by decide,by decide,by decide⟩,⟨by omega,by omega⟩,by rw [ek]; omega,⟨by decide,by decide,by decide⟩,⟨zH hn rfl,trivial⟩,this⟩
   ·refine ⟨⟨by decide,by decide⟩,by decide,aE (fun hm=>?_) (fun hm=>?_)⟩
    ·have h1:=aI4 (of_decide_eq_true hm)
     omega
    ·have h1:=of_decide_eq_false hm
     obtain ⟨m,hm'⟩ : ∃ m : Nat,Lib.indexByte r.data.toList 46 = m:=⟨(Lib.indexByte r.data.toList 46).toNat,by omega⟩
     obtain ⟨g1,g2,g3⟩:=qA hm'
     have w0 : IntKind.i64.wrap ((m : Int) + 0) = m:=by rw [Int.add_zero]; exact aQh (by omega)
     have w1 : IntKind.i64.wrap ((m : Int) + 1) = ((m + 1 : Nat) : Int):=aJ (by omega)
     rw [hm',w0]
     rw [w1]
     have em : (m : Int).toNat = m:=by omega
     have em1 : ((m + 1 : Nat) : Int).toNat = m + 1:=by omega
     rw [em,em1]
     refine ⟨⟨by omega,by omega,by omega⟩,⟨by omega,by omega⟩,by rw [ek]; omega,⟨by omega,by omega,by omega⟩,⟨zH hn rfl,trivial⟩,step m hm'⟩
 have e1 : (if IntKind.i64.wrap ((s.size : Int) + 1) < IntKind.i64.wrap (((Lib.countByte s.data.toList 46 : Nat) : Int) + 1) then IntKind.i64.wrap ((s.size : Int) + 1) else IntKind.i64.wrap (((Lib.countByte s.data.toList 46 : Nat) : Int) + 1)) = ((Lib.countByte s.data.toList 46 + 1 : Nat) : Int):=by
  rw [bA (by omega) (by omega),bA (by omega) (by omega)]
  split <;> omega
 simp only [true_and]
 rw [e1]
 have e2 : ((Lib.countByte s.data.toList 46 + 1 : Nat) : Int).toNat = Lib.countByte s.data.toList 46 + 1:=by omega
 have e3 : IntKind.i64.wrap (((Lib.countByte s.data.toList 46 + 1 : Nat) : Int) - 1) = ((Lib.countByte s.data.toList 46 : Nat) : Int):=by
  rw [bA (by omega) (by omega)]; omega
 rw [e2,e3]
 have hzl : (iE (Lib.countByte s.data.toList 46 + 1) [Value.string ⟨#[]⟩]).length = Lib.countByte s.data.toList 46 + 1:=by rw [vF]; simp
 have hnl : NLs (iE (Lib.countByte s.data.toList 46 + 1) [Value.string ⟨#[]⟩]):=fun v hv=>by
  obtain ⟨i,hi,rfl⟩:=List.mem_iff_getElem.1 hv
  have:=aAV (List.getElem?_eq_getElem hi)
  rw [show i % [Value.string ⟨#[]⟩].length = 0 from Nat.mod_one i] at this
  simp only [List.getElem?_cons_zero,Option.some.injEq] at this
  rw [← this]
  rfl
 refine ⟨⟨by omega,by omega,by omega⟩,⟨hnl,trivial⟩,?_⟩
 exact key _ 0 s [] _ (Nat.add_zero _) rfl rfl hzl rfl hnl (Nat.zero_add _) (le_refl _)
theorem aMJ (s : ByteArray) (H : HT) (Post : PV) : vcP Tryz.prog aI 192 [(4,[0,15])] [.string s] H Post = (T2 (True /\ pIf (decide (s = ByteArray.mk #[])) (T4 (Post (vb false))) (T4 (pIf (decide ((↑s.size : Int) > 16)) (T2 (True /\ Post (vb false))) (T4 ((True /\ True) /\ HP H 192 4 (stV [(0,some (vs s)),(15,some (pt 0))] [(0,some (AObj.iter s 0))] 1))))))):=by kernel_rfl
theorem aFr (s : ByteArray) (p : Nat) (H : HT) (Post : PV) : bX Tryz.prog aI 192 [.string s] [(4,[0,15])] 4 (stV [(0,some (.string s)),(15,some (pt 0))] [(0,some (.iter s p))] 1) H Post = (let q3:=(↑(Prod.fst (Utf8.decode s p)) : Int); let q9:=decide (q3 = 95); let q13:=True /\ Post (vb false); let q8:=stV [(0,some (vs s)),(15,some (pt 0))] [(0,some (AObj.iter s (p + Prod.snd (Utf8.decode s p))))] 1; let q1:=(True /\ pIf (decide ((↑p : Int) = 0)) (T4 q13) (T4 (T2 ((True /\ True) /\ HP H 192 4 q8)))); let q4:=(T4 (pIf (decide (q3 = 45)) (T4 (T2 q1)) (T4 (T2 (True /\ pIf (decide ((↑p : Int) = 0)) (T4 q13) (T4 (T2 q13))))))); let q15:=T4 (True /\ pIf q9 (T8 q1) q4); let q2:=True /\ (True /\ True) /\ HP H 192 4 q8; let q7:=T4 (pIf (decide (q3 = 45)) (T4 (T2 q2)) (T4 (T2 q2))); let q14:=T4 (True /\ pIf q9 (T8 q2) q7); let q12:=decide (q3 >= 48); let q6:=T2 (True /\ pIf (decide (q3 <= 57)) (T8 (T2 q1)) (T4 (pIf q9 (T8 q1) q4))); let q11:=T4 (T2 (pIf q12 q6 q15)); let q10:=T2 (True /\ pIf (decide (q3 <= 57)) (T8 (T2 q2)) (T4 (pIf q9 (T8 q2) q7))); let q5:=T2 (True /\ pIf (decide (q3 <= 122)) (T4 (True /\ pIf q12 q10 q14)) (T4 (True /\ pIf q12 q6 q15))); pIf (decide (p < s.size)) (T4 (T2 (True /\ pIf (decide (q3 >= 65)) (T2 (True /\ pIf (decide (q3 <= 90)) (T4 (T2 (pIf q12 q10 q14))) (T4 (pIf (decide (q3 >= 97)) q5 q11)))) (T4 (True /\ pIf (decide (q3 >= 97)) q5 q11))))) (T2 (True /\ Post (vb true)))):=by kernel_rfl
def xF : bH:=cT Tryz.prog [203,204] aI 2
theorem aPp (s : ByteArray) (H : HT) (Post : PV) : vcP Tryz.prog xF 127 [(4,[0,3])] [.string s] H Post = (let q3:=stV [(0,some (vs s)),(3,some (vi 0))] [] 0; let q1:=(↑(UInt8.toNat (Array.getD (ByteArray.data s) 0 0)) : Int); let q2:=T2 (True /\ pIf (decide (q1 <= 90)) (T8 (HP H 127 4 q3)) (T4 (T2 (True /\ Post (vb false))))); T2 (True /\ pIf (decide (s = ByteArray.mk #[])) (T4 (T2 (Post (vb false)))) (T4 (pIf (decide ((↑s.size : Int) > 16)) (T4 (True /\ Post (vb false))) (T2 (True /\ (toI (vi 0) <= 0 /\ 0 < (↑s.size : Int)) /\ T2 (True /\ pIf (decide (q1 >= 97)) (T2 (True /\ pIf (decide (q1 <= 122)) (T8 (True /\ HP H 127 4 q3)) (T4 (pIf (decide (q1 >= 65)) q2 (T8 (Post (vb false))))))) (T4 (True /\ pIf (decide (q1 >= 65)) q2 (T8 (Post (vb false)))))))))))):=by kernel_rfl
theorem aIR (s : ByteArray) (i : Int) (H : HT) (Post : PV) : bX Tryz.prog xF 127 [.string s] [(4,[0,3])] 4 (stV [(0,some (.string s)),(3,some (vi i))] [] 0) H Post = (let q3:=stV [(0,some (vs s)),(3,some (vi (wrap i64 (i + 1))))] [] 0; let q8:=True /\ HP H 127 4 q3; let q4:=(0 <= i /\ i < (↑s.size : Int)); let q2:=(↑(UInt8.toNat (Array.getD (ByteArray.data s) i.toNat 0)) : Int); let q5:=HP H 127 4 q3; let q7:=T4 (q4 /\ True /\ pIf (!decide (q2 = 45)) (T2 (True /\ Post (vb false))) (T4 (T2 q5))); let q1:=True /\ pIf (decide (q2 >= 48)) (T2 (True /\ pIf (decide (q2 <= 57)) (T8 (T4 q8)) (T4 (T2 (True /\ q4 /\ True /\ pIf (!decide (q2 = 95)) q7 (T8 q5)))))) (T8 (q4 /\ True /\ pIf (!decide (q2 = 95)) q7 (T8 q5))); let q6:=T2 (True /\ pIf (decide (q2 <= 90)) (T8 (T4 (T2 q8))) (T4 (T2 (True /\ q4 /\ T2 q1)))); T4 (pIf (decide (i < (↑s.size : Int))) (T2 (q4 /\ T2 (True /\ pIf (decide (q2 >= 97)) (T2 (True /\ pIf (decide (q2 <= 122)) (T16 q5) (T4 (pIf (decide (q2 >= 65)) q6 (T8 (q4 /\ T2 q1)))))) (T4 (True /\ pIf (decide (q2 >= 65)) q6 (T8 (q4 /\ T2 q1))))))) (T2 (Post (vb true))))):=by kernel_rfl
theorem wY : aW Tryz.prog xF:=bL mixed aD 2
def eA (s : ByteArray) (i : Nat) : Int:=((s.data.getD i 0).toNat : Int)
def ltr (c : Int) : Prop:=97 <= c /\ c <= 122 ∨ 65 <= c /\ c <= 90
def yV (c : Int) : Prop:=ltr c ∨ 48 <= c /\ c <= 57 ∨ c = 95 ∨ c = 45
instance (c : Int) : Decidable (ltr c):=by unfold ltr; infer_instance
instance (c : Int) : Decidable (yV c):=by unfold yV; infer_instance
def iR (s : ByteArray) : Prop:=1 <= s.size /\ s.size <= 16 /\ ltr (eA s 0) /\ ∀ i,i < s.size -> yV (eA s i)
instance (s : ByteArray) : Decidable (iR s):=by unfold iR; infer_instance
def pF (args : List Value) (Post : Value -> Prop) : Prop:=match args with
 | [.string s]=>Post (.bool (decide (iR s)))
 | _=>False
theorem aQd {s : ByteArray} {p : Nat} (h : p < s.size) (hb : eA s p < 128) : ((Utf8.decode s p).1 : Int) = eA s p /\ (Utf8.decode s p).2 = 1:=by
 have e : s.data.getD p 0 = s[p]'h:=by
  have h' : p < s.data.size:=h
  unfold Array.getD
  rw [dif_pos h']
  rfl
 have hb' : (s[p]'h).toNat < 128:=by unfold eA at hb; rw [e] at hb; omega
 rw [decode_ascii s p h hb']
 unfold eA
 rw [e]
 exact ⟨rfl,rfl⟩
theorem aLh {s : ByteArray} {p : Nat} (h : p < s.size) (hb : 128 <= eA s p) : 128 <= ((Utf8.decode s p).1 : Int):=by
 have e : s.data.getD p 0 = s[p]'h:=by
  have h' : p < s.data.size:=h
  unfold Array.getD
  rw [dif_pos h']
  rfl
 have hb' : 128 <= (s[p]'h).toNat:=by unfold eA at hb; rw [e] at hb; omega
 have:=(decode_high s p h hb').1
 omega
theorem xA {s : ByteArray} (h : s.size = 0) : s = ⟨#[]⟩:=by
 refine aDS ?_
 have : s.data.toList.length = 0:=by rw [Array.length_toList]; exact h
 rw [List.length_eq_zero_iff.1 this]
theorem vH : aZ Tryz.prog ⟨127,pF⟩:=by
 intro args Post h
 unfold pF at h
 dsimp only at h
 split at h
 case h_2=>exact h.elim
 rename_i s
 refine aN (vc:=xF) wY mixed (by kernel_rfl) (by kernel_rfl) _ (aPp s _ _) ?_
 have no : ¬ iR s -> Post (.bool false):=fun hn=>aBK h (decide_eq_false hn)
 have all : s.size <= 16 -> ltr (eA s 0) -> OkP 127 [.string s] 4 Post (stV [(0,some (.string s)),(3,some (vi (0 : Nat)))] [] 0):=fun h16 hl=>by
  refine cS (n:=s.size) (p:=fun k=>(∀ i,i < k -> yV (eA s i)) -> OkP 127 [.string s] 4 Post (stV [(0,some (.string s)),(3,some (vi k))] [] 0)) (fun hall=>?_) (fun k hk ih hall=>?_) (fun i hi=>by omega)
  ·refine aV (vc:=xF) wY mixed _ (aIR s _ _ _) ?_
   have hy : Post (.bool true):=aBK h (decide_eq_true ⟨by
    rcases Nat.eq_zero_or_pos s.size with h0 | h0
    ·rw [xA h0] at hl; exact absurd hl (by decide)
    ·exact h0,h16,hl,hall⟩)
   simp only [true_and,vL,decide_eq_true_eq,decide_eq_false_iff_not,and_true]
   exact ⟨fun hh=>by omega,fun _=>hy⟩
  ·refine aV (vc:=xF) wY mixed _ (aIR s _ _ _) ?_
   have hX : yV (eA s k) -> OkP 127 [.string s] 4 Post (stV [(0,some (.string s)),(3,some (vi ((k + 1 : Nat) : Int)))] [] 0):=fun hk'=>ih fun i hi=>by
    rcases lt_or_ge i k with h' | h'
    ·exact hall i h'
    ·obtain rfl : i = k:=by omega
     exact hk'
   have hY : ¬ yV (eA s k) -> Post (.bool false):=fun hn=>no fun f=>hn (f.2.2.2 k hk)
   rw [aJ (by omega)]
   simp only [Int.toNat_natCast]
   change yV (eA s k) -> wT _ _ _ _ _ _ _ at hX
   have ec : ((s.data.getD k 0).toNat : Int) = eA s k:=rfl
   simp only [ec]
   unfold yV ltr at hX hY
   generalize eA s k = c at hX hY ⊢
   simp only [true_and,and_true,vL,decide_eq_true_eq,decide_eq_false_iff_not,Bool.not_eq_eq_eq_not,Bool.not_true,Bool.not_false]
   repeat' (first
    | exact hX (by omega)
    | exact hY (by omega)
    | refine And.intro ?_ ?_
    | omega
    | intro _)
 simp only [true_and,and_true,vL,decide_eq_true_eq,decide_eq_false_iff_not]
 have ec : ((s.data.getD 0 0).toNat : Int) = eA s 0:=rfl
 simp only [ec]
 refine ⟨fun h0=>no fun f=>?_,fun h0=>⟨fun h1=>no fun f=>?_,fun h1=>?_⟩⟩
 ·rw [h0] at f; exact absurd f.1 (by decide)
 ·have:=f.2.1; omega
 have hs0 : s.size ≠ 0:=fun h'=>h0 (xA h')
 have hX : ltr (eA s 0) -> wT _ _ _ _ _ _ _:=all (by omega)
 have hY : ¬ ltr (eA s 0) -> Post (.bool false):=fun hn=>no fun f=>hn f.2.2.1
 unfold ltr at hX hY
 generalize eA s 0 = c at hX hY ⊢
 repeat' (first
  | exact hX (by omega)
  | exact hY (by omega)
  | refine And.intro ?_ ?_
  | omega
  | decide
  | intro _)
theorem aPV : aZ Tryz.prog ⟨192,pF⟩:=by
 intro args Post h
 unfold pF at h
 dsimp only at h
 split at h
 case h_2=>exact h.elim
 rename_i s
 refine aN (vc:=aI) aD mixed (by kernel_rfl) (by kernel_rfl) _ (aMJ s _ _) ?_
 have no : ¬ iR s -> Post (.bool false):=fun hn=>aBK h (decide_eq_false hn)
 simp only [true_and,and_true,vL,decide_eq_true_eq,decide_eq_false_iff_not]
 refine ⟨fun h0=>no fun f=>?_,fun h0=>⟨fun h1=>no fun f=>?_,fun h1=>?_⟩⟩
 ·rw [h0] at f; exact absurd f.1 (by decide)
 ·have:=f.2.1; omega
 have hs0 : s.size ≠ 0:=fun h'=>h0 (xA h')
 refine cS (n:=s.size) (p:=fun k=>(∀ i,i < k -> yV (eA s i)) -> (0 < k -> ltr (eA s 0)) -> OkP 192 [.string s] 4 Post (stV [(0,some (.string s)),(15,some (pt 0))] [(0,some (.iter s k))] 1)) (fun hall hl=>?_) (fun k hk ih hall hl=>?_) (fun i hi=>by omega) (fun h=>by omega)
 ·refine aV (vc:=aI) aD mixed _ (aFr s _ _ _) ?_
  have hy : Post (.bool true):=aBK h (decide_eq_true ⟨by omega,by omega,hl (by omega),hall⟩)
  refine aE (fun hh=>absurd (of_decide_eq_true hh) (Nat.lt_irrefl _)) (fun _=>?_)
  simp only [true_and,and_true]
  exact hy
 ·refine aV (vc:=aI) aD mixed _ (aFr s _ _ _) ?_
  refine aE (fun _=>?_) (fun hh=>absurd hk (of_decide_eq_false hh))
  have hX : yV (eA s k) -> (k = 0 -> ltr (eA s k)) -> ((Utf8.decode s k).2 = 1) -> OkP 192 [.string s] 4 Post (stV [(0,some (.string s)),(15,some (pt 0))] [(0,some (.iter s (k + (Utf8.decode s k).2)))] 1):=fun h1 h2 h3=>by
   rw [h3]
   refine ih (fun i hi=>?_) (fun _=>?_)
   ·rcases lt_or_ge i k with h' | h'
    ·exact hall i h'
    ·obtain rfl : i = k:=by omega
     exact h1
   ·rcases Nat.eq_zero_or_pos k with h' | h'
    ·subst h'; exact h2 rfl
    ·exact hl h'
  have hY : ¬ (yV (eA s k) /\ (k = 0 -> ltr (eA s k))) -> Post (.bool false):=fun hn=>no fun f=>hn ⟨f.2.2.2 k hk,fun hk0=>by subst hk0; exact f.2.2.1⟩
  change _ -> _ -> _ -> wT _ _ _ _ _ _ _ at hX
  have hlow:=aQd hk
  have hhigh:=aLh hk
  generalize (Utf8.decode s k).2 = wd at hX hlow hhigh ⊢
  generalize ((Utf8.decode s k).1 : Int) = d at hX hlow hhigh ⊢
  unfold yV ltr at hX hY
  generalize eA s k = c at hX hY hlow hhigh
  simp only [true_and,and_true,vL,decide_eq_true_eq,decide_eq_false_iff_not,Bool.not_eq_eq_eq_not,Bool.not_true,Bool.not_false]
  by_cases hc : c < 128
  ·obtain ⟨rfl,rfl⟩:=hlow hc
   repeat' (first
    | exact hX (by omega) (by omega) rfl
    | exact hY (by omega)
    | refine And.intro ?_ ?_
    | omega
    | intro _)
  ·have hd:=hhigh (by omega)
   have hyy:=hY (by omega)
   repeat' (first
    | exact hyy
    | refine And.intro ?_ ?_
    | omega
    | intro _)
def nW (l : List ByteArray) : Nat:=(l.map ByteArray.size).sum
theorem aK3 (l : List ByteArray) (i : Nat) : nW (l.take i) <= nW l:=by
 have h:=congrArg nW (List.take_append_drop i l)
 have e : nW (l.take i ++ l.drop i) = nW (l.take i) + nW (l.drop i):=by unfold nW; rw [List.map_append,List.sum_append]
 omega
theorem aEZ {l : List ByteArray} {i : Nat} (h : i < l.length) : aA (aB l) i 0 = .string l[i]:=by
 rw [bK h]
 rfl
theorem aOQ (s : ByteArray) (H : HT) (Post : PV) : vcP Tryz.prog (aU [⟨193,c_gs⟩] aI) 118 [] [.string s,.string dot] H Post = (T2 (True /\ ∃ (s_1 : ByteArray),eqL [vs s,vs dot,vi 0,vi (-1)] [vs s_1,vs dot,vi 0,vi (-1)] /\ s_1.size < 16777216 /\ T2 (Post (tree 1 (length (cC s_1)) (aB (cC s_1)))))):=by kernel_rfl
def aGR : List Ent:=[⟨192,pF⟩]
theorem aOA (n : Nat) (A : Array Value) (H : HT) (Post : PV) : vcP Tryz.prog (aU aGR aI) 117 [(3,[0,3,9,10,11])] [tree 1 n A] H Post = (T8 (T2 (HP H 117 3 (stV [(0,some (tree 1 n A)),(3,some (vi (wrap i64 ((↑n : Int) - 1)))),(9,some (tree 1 n A)),(10,some (vi (↑n : Int))),(11,some (vi 0))] [] 0)))):=by kernel_rfl
theorem aJo (n : Nat) (A : Array Value) (b i : Int) (H : HT) (Post : PV) : bX Tryz.prog (aU aGR aI) 117 [tree 1 n A] [(3,[0,3,9,10,11])] 3 (stV [(0,some (tree 1 n A)),(3,some (vi b)),(9,some (tree 1 n A)),(10,some (vi n)),(11,some (vi i))] [] 0) H Post = (let q2:=True /\ Post (vb false); let q1:=toS (aA A i.toNat 0); True /\ pIf (decide (i < (↑n : Int))) ((0 <= i /\ i < (↑n : Int)) /\ aA A i.toNat 0 = vs q1 /\ T2 (pIf (decide (iR q1)) (T8 (T2 (HP H 117 3 (stV [(0,some (tree 1 n A)),(3,some (vi (wrap i64 (b + (↑(ByteArray.size q1) : Int))))),(9,some (tree 1 n A)),(10,some (vi (↑n : Int))),(11,some (vi (wrap i64 (i + 1))))] [] 0)))) (T2 q2))) (T2 (True /\ pIf (decide ((↑n : Int) >= 1)) (T4 (pIf (decide ((↑n : Int) <= 8)) (T4 (pIf (decide (b <= 64)) (T2 (True /\ Post (vb true))) (T2 q2))) (T4 q2))) (T4 (T2 (Post (vb false))))))):=by kernel_rfl
theorem aPg (s : ByteArray) (H : HT) (Post : PV) : vcP Tryz.prog aI 126 [(4,[0,3,4,5])] [.string s] H Post = (T4 (T2 (HP H 126 4 (stV [(0,some (vs s)),(3,some (nS)),(4,some (vi 0)),(5,some (vi 0))] [] 0)))):=by kernel_rfl
theorem aMZ (s : ByteArray) (a i : Int) (H : HT) (Post : PV) : bX Tryz.prog aI 126 [.string s] [(4,[0,3,4,5])] 4 (stV [(0,some (.string s)),(3,some (.slice none 0 0)),(4,some (vi a)),(5,some (vi i))] [] 0) H Post = (let q4:=[vs (ByteArray.extract s a.toNat i.toNat)]; let q3:=0 <= i /\ 0 <= a /\ toNat a <= toNat i /\ toNat i <= s.size; let q2:=vi (wrap i64 (i + 1)); let q1:=(NLs q4 /\ True) /\ HP H 126 4 (stV [(0,some (vs s)),(3,some (Value.slice (some (Addr.mk 0 0 none)) 1 1)),(4,some q2),(5,some q2)] [(0,some (AObj.cells q4 true))] 1); T4 (pIf (decide (i <= (↑s.size : Int))) (T4 (pIf (decide (i = (↑s.size : Int))) (T4 (T2 (q3 /\ True /\ 1 <= 1 /\ 1 <= 33554432 /\ true = true /\ 1 = 1 /\ T8 q1))) (T2 (True /\ (0 <= i /\ i < (↑s.size : Int)) /\ True /\ pIf (decide ((↑(UInt8.toNat (Array.getD (ByteArray.data s) i.toNat 0)) : Int) = 46)) (T4 (True /\ q3 /\ True /\ 1 <= 1 /\ 1 <= 33554432 /\ true = true /\ 1 = 1 /\ T8 q1)) (T4 (T2 (HP H 126 4 (stV [(0,some (vs s)),(3,some (nS)),(4,some (vi a)),(5,some q2)] [] 0)))))))) (T2 (True /\ Post (tree 1 0 #[]))))):=by kernel_rfl
theorem aG7 (s : ByteArray) (a i : Int) (k : Nat) (l : List Value) (H : HT) (Post : PV) : bX Tryz.prog aI 126 [.string s] [(4,[0,3,4,5])] 4 (stV [(0,some (.string s)),(3,some (.slice (some ⟨0,0,none⟩) k 1)),(4,some (vi a)),(5,some (vi i))] [(0,some (.cells l true))] 1) H Post = (let q4:=l ++ [vs (ByteArray.extract s a.toNat i.toNat)]; let q3:=0 <= i /\ 0 <= a /\ toNat a <= toNat i /\ toNat i <= s.size; let q2:=vi (wrap i64 (i + 1)); let q1:=(NLs q4 /\ True) /\ HP H 126 4 (stV [(0,some (vs s)),(3,some (Value.slice (some (Addr.mk 0 0 none)) (k + 1) 1)),(4,some q2),(5,some q2)] [(0,some (AObj.cells q4 true))] 1); T4 (pIf (decide (i <= (↑s.size : Int))) (T4 (pIf (decide (i = (↑s.size : Int))) (T4 (T2 (q3 /\ True /\ 1 <= 1 /\ k + 1 <= 33554432 /\ true = true /\ 1 = 1 /\ 0 + k * 1 = length l /\ T8 q1))) (T2 (True /\ (0 <= i /\ i < (↑s.size : Int)) /\ True /\ pIf (decide ((↑(UInt8.toNat (Array.getD (ByteArray.data s) i.toNat 0)) : Int) = 46)) (T4 (True /\ q3 /\ True /\ 1 <= 1 /\ k + 1 <= 33554432 /\ true = true /\ 1 = 1 /\ 0 + k * 1 = length l /\ T8 q1)) (T4 (True /\ (NLs l /\ True) /\ HP H 126 4 (stV [(0,some (vs s)),(3,some (Value.slice (some (Addr.mk 0 0 none)) k 1)),(4,some (vi a)),(5,some q2)] [(0,some (AObj.cells l true))] 1))))))) (T2 ((0 + k * 1 <= length l /\ NLs l) /\ Post (tree 1 k (bP 1 k (List.drop 0 l))))))):=by kernel_rfl
def aIU (args : List Value) (Post : Value -> Prop) : Prop:=∃ s : ByteArray,args = [.string s,.string dot] /\ s.size < 16777216 /\ Post (tree 1 (cC s).length (aB (cC s)))
theorem aNO : aZ Tryz.prog ⟨118,aIU⟩:=by
 rintro args Post ⟨s,rfl,hs,h⟩
 refine aN (vc:=aU [⟨193,c_gs⟩] aI) (aM (by
  intro e he
  simp only [mem_cons,not_mem_nil,or_false] at he
  subst he
  exact ok_gs) aD) mixed (by kernel_rfl) (by kernel_rfl) _ (aOQ s _ _) ?_
 repeat (first | exact ⟨s,rfl,hs,by repeat (first | exact h | refine And.intro trivial ?_)⟩ | refine And.intro trivial ?_)
theorem aLN : ∀ {l : List UInt8} {m : Nat} (_ : m < l.length),(∀ j,j < m -> l.getD j 0 ≠ 46) -> l.getD m 0 = 46 -> Lib.indexByte l 46 = m
 | [],m,hm,_,_=>by simp at hm
 | c :: l,m,hm,h,h46=>by
  unfold Lib.indexByte
  cases m with
  | zero =>
   have : c = 46:=by simpa using h46
   subst this
   rfl
  | succ m =>
   have hc : c ≠ 46:=by simpa using h 0 (by omega)
   have hb : (c == 46) = false:=by simp [hc]
   have ih:=aLN (l:=l) (m:=m) (by simpa using hm) (fun j hj=>by simpa using h (j + 1) (by omega)) (by simpa using h46)
   rw [hb,ih]
   simp only [Bool.false_eq_true,if_false]
   have : ((m : Int) == -1) = false:=by simp
   rw [this]
   simp
theorem aMe {l : List UInt8} (h : ∀ j,j < l.length -> l.getD j 0 ≠ 46) : Lib.countByte l 46 = 0:=by
 unfold Lib.countByte
 rw [List.count_eq_zero]
 intro hm
 obtain ⟨j,hj,e⟩:=List.mem_iff_getElem.1 hm
 refine h j hj ?_
 simp [List.getD,List.getElem?_eq_getElem hj,e]
theorem aCB (s : ByteArray) : cC s ≠ []:=fun h=>by
 have:=congrArg length h
 unfold cC at this
 rw [List.length_map,sY] at this
 simp at this
def tL (s : ByteArray) (done : List ByteArray) (a i : Nat) : AS:=match done with
 | []=>stV [(0,some (.string s)),(3,some (.slice none 0 0)),(4,some (vi a)),(5,some (vi i))] [] 0
 | d :: ds=>stV [(0,some (.string s)),(3,some (.slice (some ⟨0,0,none⟩) (d :: ds).length 1)),(4,some (vi a)),(5,some (vi i))] [(0,some (.cells ((d :: ds).map Value.string) true))] 1
theorem rP (l : List ByteArray) : NLs (l.map Value.string):=fun v hv=>by
 obtain ⟨s,_,rfl⟩:=List.mem_map.1 hv
 rfl
def aJf (args : List Value) (Post : Value -> Prop) : Prop:=∃ s : ByteArray,args = [.string s] /\ s.size < 16777216 /\ Post (tree 1 (cC s).length (aB (cC s)))
theorem xY {s : ByteArray} {Post : Value -> Prop} {done : List ByteArray} {a i : Nat} (hs : s.size < 16777216) (hk : done.length <= a) (ha : a <= i) (hi : i <= s.size)
  (h1 : i = s.size ∨ eA s i = 46 -> OkP 126 [.string s] 4 Post (tL s (done ++ [s.extract a i]) (i + 1) (i + 1)))
  (h2 : i < s.size -> eA s i ≠ 46 -> OkP 126 [.string s] 4 Post (tL s done a (i + 1))) : OkP 126 [.string s] 4 Post (tL s done a i):=by
 have ei : ((i : Nat) : Int).toNat = i:=by omega
 have ea : ((a : Nat) : Int).toNat = a:=by omega
 have ew : IntKind.i64.wrap ((i : Int) + 1) = ((i + 1 : Nat) : Int):=aJ (by omega)
 have ec : ((s.data.getD i 0).toNat : Int) = eA s i:=rfl
 cases done with
 | nil =>
  refine aV (vc:=aI) aD mixed _ (aMZ s _ _ _ _) ?_
  simp only [ei,ea,ew,ec,true_and]
  refine aE (fun _=>?_) (fun hh=>by have:=of_decide_eq_false hh; omega)
  refine aE (fun hh=>?_) (fun hh=>?_)
  ·exact ⟨⟨by omega,by omega,ha,hi⟩,by omega,by omega,⟨rP [s.extract a i],trivial⟩,h1 (.inl (by have:=of_decide_eq_true hh; omega))⟩
  ·have hlt : i < s.size:=by have:=of_decide_eq_false hh; omega
   refine ⟨⟨by omega,by omega⟩,aE (fun hb=>?_) (fun hb=>?_)⟩
   ·exact ⟨⟨by omega,by omega,ha,hi⟩,by omega,by omega,⟨rP [s.extract a i],trivial⟩,h1 (.inr (of_decide_eq_true hb))⟩
   ·exact h2 hlt (of_decide_eq_false hb)
 | cons d ds =>
  refine aV (vc:=aI) aD mixed _ (aG7 s _ _ _ _ _ _) ?_
  simp only [ei,ea,ew,ec,true_and]
  have hlen : (d :: ds).length <= 16777216:=by omega
  have el : (List.map Value.string (d :: ds)) ++ [Value.string (s.extract a i)] = List.map Value.string (d :: ds ++ [s.extract a i]):=by simp
  have en : (d :: ds).length + 1 = (d :: ds ++ [s.extract a i]).length:=by simp
  have fit : 0 + (d :: ds).length * 1 = (List.map Value.string (d :: ds)).length:=by simp
  refine aE (fun _=>?_) (fun hh=>by have:=of_decide_eq_false hh; omega)
  refine aE (fun hh=>?_) (fun hh=>?_)
  ·have hx:=h1 (.inl (by have:=of_decide_eq_true hh; omega))
   rw [el,en]
   exact ⟨⟨by omega,by omega,ha,hi⟩,by omega,by rw [← en]; omega,fit,⟨rP _,trivial⟩,hx⟩
  ·have hlt : i < s.size:=by have:=of_decide_eq_false hh; omega
   refine ⟨⟨by omega,by omega⟩,aE (fun hb=>?_) (fun hb=>?_)⟩
   ·have hx:=h1 (.inr (of_decide_eq_true hb))
    rw [el,en]
    exact ⟨⟨by omega,by omega,ha,hi⟩,by omega,by rw [← en]; omega,fit,⟨rP _,trivial⟩,hx⟩
   ·exact ⟨⟨rP _,trivial⟩,h2 hlt (of_decide_eq_false hb)⟩
theorem aL6 : aZ Tryz.prog ⟨126,aJf⟩:=by
 rintro args Post ⟨s,rfl,hs,h⟩
 refine aN (vc:=aI) aD mixed (by kernel_rfl) (by kernel_rfl) _ (aPg s _ _) ?_
 have hlast : OkP 126 [.string s] 4 Post (tL s (cC s) (s.size + 1) (s.size + 1)):=by
  cases hp : cC s with
  | nil=>exact absurd hp (aCB s)
  | cons d ds =>
   refine aV (vc:=aI) aD mixed _ (aG7 s _ _ _ _ _ _) ?_
   simp only [true_and]
   refine aE (fun hh=>by have:=of_decide_eq_true hh; omega) (fun _=>?_)
   rw [hp] at h
   have e : bP 1 (d :: ds).length (List.drop 0 (List.map Value.string (d :: ds))) = aB (d :: ds):=by
    show ((List.map Value.string (d :: ds)).take _).toArray = _
    rw [List.take_of_length_le (by simp)]
    rfl
   rw [e]
   exact ⟨⟨by simp,rP _⟩,h⟩
 have hll : s.data.toList.length = s.size:=by rw [Array.length_toList]; rfl
 have hx : ∀ a,a <= s.size -> (s.extract a s.size).data.toList = s.data.toList.drop a:=fun a ha=>by rw [nN,List.take_of_length_le (by rw [List.length_drop,hll]; omega)]
 have hby : ∀ i,eA s i = 46 ↔ s.data.toList.getD i 0 = 46:=fun i=>by
  unfold eA
  have e : s.data.getD i 0 = s.data.toList.getD i 0:=by simp [Array.getD_eq_getD_getElem?,List.getD_eq_getElem?_getD]
  rw [e]
  constructor
  ·intro h'
   have : (s.data.toList.getD i 0).toNat = 46:=by omega
   exact UInt8.toNat_inj.1 (this.trans rfl)
  ·intro h'; rw [h']; rfl
 have key : ∀ (n i a : Nat) (done : List ByteArray),i + n = s.size -> a <= i -> done.length <= a -> done ++ cC (s.extract a s.size) = cC s -> (∀ j,a <= j -> j < i -> eA s j ≠ 46) -> OkP 126 [.string s] 4 Post (tL s done a i):=by
  intro n
  induction n with
  | zero =>
   intro i a done hi ha hk hp hno
   obtain rfl : i = s.size:=by omega
   refine xY hs hk ha (le_refl _) (fun _=>?_) (fun hlt=>by omega)
   have h0 : cC (s.extract a s.size) = [s.extract a s.size]:=by
    refine yJ (aMe fun j hj=>?_)
    rw [hx a ha] at hj ⊢
    rw [List.length_drop,hll] at hj
    have:=hno (a + j) (by omega) (by omega)
    rw [Ne,hby] at this
    simpa [List.getD_eq_getElem?_getD] using this
   rw [h0] at hp
   rw [hp]
   exact hlast
  | succ n ih =>
   intro i a done hi ha hk hp hno
   refine xY hs hk ha (by omega) (fun hor=>?_) (fun hlt hb=>?_)
   ·have h46 : eA s i = 46:=by
     rcases hor with h' | h'
     ·omega
     ·exact h'
    have hidx : Lib.indexByte (s.extract a s.size).data.toList 46 = ((i - a : Nat) : Int):=by
     rw [hx a (by omega)]
     refine aLN (by rw [List.length_drop,hll]; omega) (fun j hj=>?_) ?_
     ·have:=hno (a + j) (by omega) (by omega)
      rw [Ne,hby] at this
      simpa [List.getD_eq_getElem?_getD] using this
     ·have:=(hby i).1 h46
      have e : a + (i - a) = i:=by omega
      simpa [List.getD_eq_getElem?_getD,e] using this
    obtain ⟨g1,g2,_⟩:=qA hidx
    have e1 : (s.extract a s.size).extract 0 (i - a) = s.extract a i:=by
     refine aDS ?_
     rw [nN,hx a (by omega),nN]
     simp
    have e2 : (s.extract a s.size).extract (i - a + 1) (s.extract a s.size).size = s.extract (i + 1) s.size:=by
     refine aDS ?_
     rw [nN,hx a (by omega),hx (i + 1) (by omega),List.drop_drop,List.take_of_length_le (by rw [List.length_drop,hll,aGc]; omega)]
     congr 1
     omega
    rw [e1,e2] at g2
    exact ih (i + 1) (i + 1) _ (by omega) (le_refl _) (by simp; omega) (by rw [← hp,g2]; simp) (fun j h1 h2=>by omega)
   ·exact ih (i + 1) a done (by omega) (by omega) hk hp (fun j h1 h2=>by
     rcases lt_or_ge j i with h' | h'
     ·exact hno j h1 h'
     ·obtain rfl : j = i:=by omega
      exact hb)
 have:=key s.size 0 0 [] (by omega) (le_refl _) (le_refl _) (by
  have : s.extract 0 s.size = s:=by
   refine aDS ?_
   rw [hx 0 (by omega),List.drop_zero]
  rw [this]; rfl) (fun j h1 h2=>by omega)
 repeat (first | exact this | refine And.intro trivial ?_)
def uD (l : List ByteArray) : Prop:=1 <= l.length /\ l.length <= 8 /\ (∀ p ∈ l,iR p) /\ l.length + nW l <= 65
instance (l : List ByteArray) : Decidable (uD l):=by unfold uD; infer_instance
def aIe (args : List Value) (Post : Value -> Prop) : Prop:=∃ l : List ByteArray,args = [tree 1 l.length (aB l)] /\ l.length + nW l <= 16777216 /\ Post (.bool (decide (uD l)))
theorem aQl (l : List ByteArray) (k : Nat) (h : k < l.length) : nW (l.take (k + 1)) = nW (l.take k) + l[k].size:=by
 unfold nW
 rw [List.take_succ_eq_append_getElem h,List.map_append,List.sum_append]
 simp
theorem aL3 : aZ Tryz.prog ⟨117,aIe⟩:=by
 rintro args Post ⟨l,rfl,hv,h⟩
 have hok : aW Tryz.prog (aU aGR aI):=aM (by
  intro e he
  simp only [aGR,mem_cons,not_mem_nil,or_false] at he
  subst he
  exact aPV) aD
 refine aN (vc:=aU aGR aI) hok mixed (by kernel_rfl) (by kernel_rfl) _ (aOA _ _ _ _) ?_
 have no : ¬ uD l -> Post (.bool false):=fun hn=>aBK h (decide_eq_false hn)
 simp only [true_and]
 have key:=cS (n:=l.length) (p:=fun k=>(∀ i (hi : i < l.length),i < k -> iR l[i]) -> OkP 117 [tree 1 l.length (aB l)] 3 Post (stV [(0,some (tree 1 l.length (aB l))),(3,some (vi ((l.length : Int) - 1 + (nW (l.take k) : Nat)))),(9,some (tree 1 l.length (aB l))),(10,some (vi l.length)),(11,some (vi k))] [] 0)) (fun hall=>?_) (fun k hk ih hall=>?_) (fun i hi h0=>by omega)
 ·rw [bA (by omega) (by omega)]
  have e : ((l.length : Int) - 1 + ((nW (l.take 0) : Nat) : Int)) = (l.length : Int) - 1:=by simp [nW]
  rw [e] at key
  exact key
 ·refine aV (vc:=aU aGR aI) hok mixed _ (aJo _ _ _ _ _ _) ?_
  simp only [true_and]
  have hall' : ∀ p ∈ l,iR p:=fun p hp=>by
   obtain ⟨i,hi,rfl⟩:=List.mem_iff_getElem.1 hp
   exact hall i hi hi
  refine aE (fun hh=>by have:=of_decide_eq_true hh; omega) (fun _=>?_)
  rw [List.take_of_length_le (le_refl _)]
  refine aE (fun h1=>?_) (fun h1=>no fun f=>absurd f.1 (by have:=of_decide_eq_false h1; omega))
  refine aE (fun h2=>?_) (fun h2=>no fun f=>absurd f.2.1 (by have:=of_decide_eq_false h2; omega))
  have h1:=of_decide_eq_true h1
  have h2:=of_decide_eq_true h2
  exact aE (fun h3=>aBK h (decide_eq_true ⟨by omega,by omega,hall',by have:=of_decide_eq_true h3; omega⟩)) (fun h3=>no fun f=>absurd f.2.2.2 (by have:=of_decide_eq_false h3; omega))
 ·refine aV (vc:=aU aGR aI) hok mixed _ (aJo _ _ _ _ _ _) ?_
  have ek : ((k : Nat) : Int).toNat = k:=by omega
  simp only [true_and,ek,aEZ hk,toS]
  refine aE (fun _=>?_) (fun hh=>by have:=of_decide_eq_false hh; omega)
  refine ⟨⟨by omega,by omega⟩,aE (fun hn=>?_) (fun hn=>no fun f=>absurd (f.2.2.1 _ (List.getElem_mem hk)) (of_decide_eq_false hn))⟩
  have hv1:=aQl l k hk
  have hv2:=aK3 l (k + 1)
  have ew : IntKind.i64.wrap ((l.length : Int) - 1 + ((nW (l.take k) : Nat) : Int) + (l[k].size : Int)) = (l.length : Int) - 1 + ((nW (l.take (k + 1)) : Nat) : Int):=by
   rw [bA (by omega) (by omega)]; omega
  rw [ew,aJ (by omega)]
  exact ih fun i hi hik=>by
   rcases lt_or_ge i k with h' | h'
   ·exact hall i hi h'
   ·obtain rfl : i = k:=by omega
    exact of_decide_eq_true hn
def nK (s : ByteArray) : Prop:=s.size <= 64 /\ (cC s).length <= 8 /\ ∀ p ∈ cC s,iR p
instance (s : ByteArray) : Decidable (nK s):=by unfold nK; infer_instance
theorem aHq (s : ByteArray) : (cC s).length + nW (cC s) = s.size + 1:=by
 have key : ∀ l : List UInt8,(fZ l).length + ((fZ l).map length).sum = l.length + 1:=by
  intro l
  induction l with
  | nil=>rfl
  | cons c l ih =>
   by_cases hc : c = 46
   ·subst hc
    simp only [fZ,if_true,List.length_cons,List.map_cons,List.sum_cons,List.length_nil]
    omega
   ·simp only [fZ,hc,if_false]
    split
    ·rename_i p ps hp
     rw [hp] at ih
     simp only [List.length_cons,List.map_cons,List.sum_cons] at ih ⊢
     omega
    ·rename_i hp
     rw [hp] at ih
     simp at ih
 have h:=key s.data.toList
 have hl : s.data.toList.length = s.size:=by rw [Array.length_toList]; rfl
 unfold cC nW
 rw [List.length_map,List.map_map,← hl]
 have e : (List.map (ByteArray.size ∘ fun l=>(⟨l.toArray⟩ : ByteArray)) (fZ s.data.toList)) = (fZ s.data.toList).map length:=List.map_congr_left fun l _=>by simp [ByteArray.size]
 rw [e]
 exact h
def aJ3 : List Ent:=[⟨118,aIU⟩,⟨117,aIe⟩]
theorem e_id (s : ByteArray) (H : HT) (Post : PV) : vcP Tryz.prog (aU aJ3 aI) 46 [] [.string s] H Post = (T4 (pIf (decide ((↑s.size : Int) <= 64)) (T2 (∃ (s_1 : ByteArray),eqL [vs s,vs (ByteArray.mk #[46])] [vs s_1,vs dot] /\ s_1.size < 16777216 /\ ∃ (l : List ByteArray),eqL [tree 1 (length (cC s_1)) (aB (cC s_1))] [tree 1 l.length (aB l)] /\ length l + nW l <= 16777216 /\ pIf (decide (uD l)) (T2 (True /\ Post (vb true))) (T2 (True /\ Post (vb false))))) (T4 (Post (vb false))))):=by kernel_rfl
def tF : List Ent:=[⟨126,aJf⟩,⟨127,pF⟩]
theorem e_rid (s : ByteArray) (H : HT) (Post : PV) : vcP Tryz.prog (aU tF aI) 54 [(5,[3,4])] [.string s] H Post = (T2 (∃ (s_1 : ByteArray),eqL [vs s] [vs s_1] /\ s_1.size < 16777216 /\ T4 (pIf (decide ((↑s.size : Int) > 64)) (T4 (Post (vb false))) (T4 (pIf (decide ((↑(length (cC s_1)) : Int) > 8)) (T2 (True /\ Post (vb false))) (T4 (HP H 54 5 (stV [(3,some (tree 1 (length (cC s_1)) (aB (cC s_1)))),(4,some (vi 0))] [] 0)))))))):=by kernel_rfl
theorem aQy (s : ByteArray) (n : Nat) (A : Array Value) (i : Int) (H : HT) (Post : PV) : bX Tryz.prog (aU tF aI) 54 [.string s] [(5,[3,4])] 5 (stV [(3,some (tree 1 n A)),(4,some (vi i))] [] 0) H Post = (let q1:=toS (aA A i.toNat 0); T4 (pIf (decide (i < (↑n : Int))) (T2 ((0 <= i /\ i < (↑n : Int)) /\ aA A i.toNat 0 = vs q1 /\ pIf (decide (iR q1)) (T4 (T2 (HP H 54 5 (stV [(3,some (tree 1 n A)),(4,some (vi (wrap i64 (i + 1))))] [] 0)))) (T2 (True /\ Post (vb false))))) (T2 (Post (vb true))))):=by kernel_rfl
def aMP (args : List Value) (Post : Value -> Prop) : Prop:=∃ s : ByteArray,args = [.string s] /\ s.size < 16777000 /\ Post (.bool (decide (nK s)))
theorem aDQ : aZ Tryz.prog ⟨54,aMP⟩:=by
 rintro args Post ⟨s,rfl,hs,h⟩
 have hok : aW Tryz.prog (aU tF aI):=aM (by
  intro e he
  simp only [tF,mem_cons,not_mem_nil,or_false] at he
  rcases he with rfl | rfl
  ·exact aL6
  ·exact vH) aD
 refine aN (vc:=aU tF aI) hok mixed (by kernel_rfl) (by kernel_rfl) _ (e_rid s _ _) ?_
 simp only [true_and]
 have no : ¬ nK s -> Post (.bool false):=fun hn=>aBK h (decide_eq_false hn)
 refine ⟨s,rfl,by omega,aE (fun h1=>no fun f=>absurd f.1 (by have:=of_decide_eq_true h1; omega)) (fun h1=>?_)⟩
 refine aE (fun h2=>no fun f=>absurd f.2.1 (by have:=of_decide_eq_true h2; omega)) (fun h2=>?_)
 have h1:=of_decide_eq_false h1
 have h2:=of_decide_eq_false h2
 have key:=cS (n:=(cC s).length) (p:=fun k=>(∀ i (hi : i < (cC s).length),i < k -> iR (cC s)[i]) -> OkP 54 [.string s] 5 Post (stV [(3,some (tree 1 (cC s).length (aB (cC s)))),(4,some (vi k))] [] 0)) (fun hall=>?_) (fun k hk ih hall=>?_) (fun i hi h0=>by omega)
 ·exact key
 ·refine aV (vc:=aU tF aI) hok mixed _ (aQy _ _ _ _ _ _) ?_
  simp only [true_and]
  refine aE (fun hh=>by have:=of_decide_eq_true hh; omega) (fun _=>?_)
  refine aBK h (decide_eq_true ⟨by omega,by omega,fun p hp=>?_⟩)
  obtain ⟨i,hi,rfl⟩:=List.mem_iff_getElem.1 hp
  exact hall i hi hi
 ·refine aV (vc:=aU tF aI) hok mixed _ (aQy _ _ _ _ _ _) ?_
  have ek : ((k : Nat) : Int).toNat = k:=by omega
  simp only [true_and,ek,aEZ hk,toS]
  refine aE (fun _=>?_) (fun hh=>by have:=of_decide_eq_false hh; omega)
  refine ⟨⟨by omega,by omega⟩,aE (fun hn=>?_) (fun hn=>no fun f=>absurd (f.2.2 _ (List.getElem_mem hk)) (of_decide_eq_false hn))⟩
  rw [aJ (by omega)]
  exact ih fun i hi hik=>by
   rcases lt_or_ge i k with h' | h'
   ·exact hall i hi h'
   ·obtain rfl : i = k:=by omega
    exact of_decide_eq_true hn
def cB (k : Int) : Int:=if k = 1 then 1 else if k = 2 ∨ k = 3 then 2 else if k = 4 then 3 else 0
def gY (p : Part) : Prop:=p.thick ≠ 0 ∨ 0 < p.outer.length + p.holes.length
def jN (p : Part) : Prop:=p.sect ≠ ⟨#[]⟩ ∨ p.long ≠ 0
def jQ (p : Part) : Prop:=p.mass ≠ 0 ∨ p.centre ≠ ⟨0,0,0⟩
instance (p : Part) : Decidable (gY p):=by unfold gY; infer_instance
instance (p : Part) : Decidable (jN p):=by unfold jN; infer_instance
instance (p : Part) : Decidable (jQ p):=by unfold jQ; infer_instance
def iD (p : Part) : Prop:=(cB p.kind = 1 /\ (jN p ∨ jQ p)) ∨ (cB p.kind = 2 /\ (gY p ∨ jQ p)) ∨ (cB p.kind ≠ 1 /\ cB p.kind ≠ 2 /\ (p.grade ≠ ⟨#[]⟩ ∨ gY p ∨ jN p))
instance (p : Part) : Decidable (iD p):=by unfold iD; infer_instance
def mR (p : Part) (m : Mats) : Prop:=cB p.kind = 3 ∨ (mP m p.grade /\ (1000 <= (aX m p.grade).dens /\ (aX m p.grade).dens <= 20000) /\ ((cB p.kind = 1 /\ (1 <= p.thick /\ p.thick <= 120) /\ kW m p.grade p.thick) ∨ (cB p.kind ≠ 1 /\ oV m p.sect /\ (1 <= (bZ m p.sect).area /\ (bZ m p.sect).area <= 1000000) /\ (1 <= (bZ m p.sect).height /\ (bZ m p.sect).height <= 2000))))
instance (p : Part) (m : Mats) : Decidable (mR p m):=by unfold mR; infer_instance
def gU (p : Part) : Int:=if cB p.kind = 1 then cA p.outer p.holes else if cB p.kind = 2 then (if p.long < 1 ∨ 32768 < p.long then 9 else 0) else if p.mass < 1 ∨ 1099511627776 < p.mass ∨ ¬ inV p.centre 524288 then 9 else 0
def bF (p : Part) (m : Mats) : Int:=if ¬ nK p.id ∨ ¬ nK p.node then 6 else if p.rev < 1 ∨ 1000 < p.rev then 9 else if cB p.kind = 0 then 10 else if iD p then 2 else if ¬ mR p m then 23 else if gU p ≠ 0 then gU p else if ¬ dW p.at_ p.turn then 9 else 0
structure FitQ (p : Part) : Prop where
 outer : aH p.outer
 holes : aH p.holes
 all : ∀ h ∈ p.holes,aH h
 sum : p.outer.length + p.holes.length < 4611686018427387904
def aQs (args : List Value) (Post : Value -> Prop) : Prop:=∃ s : ByteArray,args = [.string s] /\ Post (.bool (decide (nK s)))
def sM (args : List Value) (Post : Value -> Prop) : Prop:=match args with
 | [.int .i64 k]=>Post (.int .i64 (cB k))
 | _=>False
def aIG (args : List Value) (Post : Value -> Prop) : Prop:=∃ p : Part,args = [dX p] /\ FitQ p /\ Post (.bool (decide (iD p)))
def aMi (args : List Value) (Post : Value -> Prop) : Prop:=∃ (p : Part) (m : Mats),args = [dX p,bD m] /\ FewM m /\ Post (.bool (decide (mR p m)))
def aBi (args : List Value) (Post : Value -> Prop) : Prop:=∃ (p : Part) (m : Mats),args = [dX p,bD m] /\ FitQ p /\ FewM m /\ Post (.int .i64 (bF p m))
theorem aRG (k : Int) (H : HT) (Post : PV) : vcP Tryz.prog aI 48 [] [.int .i64 k] H Post = (T2 (True /\ pIf (decide (k = 1)) (T2 (True /\ Post (vi 1))) (T2 (pIf (decide (k = 2)) (T2 (True /\ Post (vi 2))) (T2 (pIf (decide (k = 3)) (T2 (True /\ Post (vi 2))) (T2 (pIf (decide (k = 4)) (T2 (True /\ Post (vi 3))) (T2 (True /\ Post (vi 0))))))))))):=by kernel_rfl
theorem aOr (p : Part) (H : HT) (Post : PV) : vcP Tryz.prog (aU [⟨48,sM⟩] aI) 49 [] [dX p] H Post = (let q10:=!decide (p.grade = ByteArray.mk #[]); let q5:=T4 (T2 (Post (vb true))); let q17:=T4 (pIf q10 q5 (T8 (Post (vb true)))); let q12:=!decide (p.mass = 0); let q6:=decide (cB p.kind = 1); let q11:=decide (cB p.kind = 2); let q9:=T4 (T2 (True /\ Post (vb true))); let q1:=T2 (pIf q11 q5 (T4 (pIf q10 q5 q9))); let q8:=!(decide (p.centre.x = 0) && (decide (p.centre.y = 0) && (decide (p.centre.z = 0) && true))); let q4:=T4 (True /\ pIf q8 (T4 (True /\ pIf q6 q5 q1)) (T4 (True /\ pIf q6 q5 q1))); let q16:=T4 (T2 (pIf q12 (T4 (T2 (pIf q6 q5 q1))) q4)); let q15:=!decide (p.sect = ByteArray.mk #[]); let q14:=T4 (pIf q10 q5 (T8 (Post (vb false)))); let q13:=T4 (T2 (True /\ Post (vb false))); let q7:=T2 (pIf q11 q9 q17); let q3:=T4 (True /\ pIf q8 (T4 (True /\ pIf q6 q5 q7)) (T4 (True /\ pIf q6 q5 (T2 (pIf q11 q13 q17))))); let q2:=T4 (pIf (!decide (p.long = 0)) (T4 (True /\ pIf q12 (T4 (T2 (pIf q6 q5 q1))) q4)) (T4 (True /\ pIf q12 (T4 (T2 (pIf q6 q9 q1))) (T4 (True /\ pIf q8 (T4 (True /\ pIf q6 q9 q1)) (T4 (True /\ pIf q6 q13 q1))))))); T4 (True /\ pIf (!decide (p.thick = 0)) (T4 (T2 (pIf q15 q16 q2))) (T8 (T2 (True /\ pIf (decide (wrap i64 ((↑p.outer.length : Int) + (↑p.holes.length : Int)) > 0)) (T4 (True /\ pIf q15 q16 q2)) (T4 (True /\ pIf q15 (T4 (T2 (pIf q12 (T4 (T2 (pIf q6 q5 q7))) q3))) (T4 (pIf (!decide (p.long = 0)) (T4 (True /\ pIf q12 (T4 (T2 (pIf q6 q5 q7))) q3)) (T4 (True /\ pIf q12 (T4 (T2 (pIf q6 q9 (T2 (pIf q11 q9 q14))))) (T4 (True /\ pIf q8 (T4 (True /\ pIf q6 q9 (T2 (pIf q11 q9 q14)))) (T4 (True /\ pIf q6 q13 (T2 (pIf q11 q13 q14))))))))))))))))):=by kernel_rfl
def vcMd : bH:=cT Tryz.prog [47] (aU [⟨48,sM⟩,⟨62,zK⟩,⟨63,sS⟩,⟨119,aFe⟩] aI) 2
theorem aRZ (p : Part) (m : Mats) (H : HT) (Post : PV) : vcP Tryz.prog vcMd 50 [] [dX p,bD m] H Post = (let q3:=Post (vb false); let q2:=True /\ Post (vb false); let q1:=(dO m).toArray; T4 (T2 (pIf (decide (cB p.kind = 3)) (T2 (Post (vb true))) (T2 (True /\ ∃ (m_1 : Mats),∃ (s : ByteArray),eqL [Value.agg q1,vs p.grade] [bD m_1,vs s] /\ FewM m_1 /\ T2 (True /\ pIf (decide (mP m_1 s)) (True /\ 4 <= 4 /\ T8 (T2 (pIf (decide (Grade4.dens (aX m_1 s) >= 1000)) (T4 (pIf (decide (Grade4.dens (aX m_1 s) <= 20000)) (T4 (T2 (True /\ pIf (decide (cB p.kind = 1)) (T4 (T2 (pIf (decide (p.thick >= 1)) (T4 (pIf (decide (p.thick <= 120)) (T8 (∃ (m_2 : Mats),∃ (s : ByteArray),∃ (t : Int),eqL [Value.agg q1,vs p.grade,vi p.thick] [bD m_2,vs s,vi t] /\ FewM m_2 /\ pIf (decide (kW m_2 s t)) (T2 (True /\ Post (vb true))) (T2 q2))) (T4 (T2 q3)))) (T4 (T2 q2))))) (T2 (True /\ ∃ (m_2 : Mats),∃ (s : ByteArray),eqL [Value.agg q1,vs p.sect] [bD m_2,vs s] /\ FewM m_2 /\ T2 (True /\ pIf (decide (oV m_2 s)) (True /\ 4 <= 4 /\ T8 (True /\ pIf (decide (Sect4.area (bZ m_2 s) >= 1)) (T4 (pIf (decide (Sect4.area (bZ m_2 s) <= 1000000)) (T8 (T2 (pIf (decide (Sect4.height (bZ m_2 s) >= 1)) (T4 (pIf (decide (Sect4.height (bZ m_2 s) <= 2000)) (T4 (True /\ Post (vb true))) (T4 q2))) (T4 (T2 q3))))) (T4 (T2 q2)))) (T8 q3))) (True /\ 4 <= 4 /\ T8 q3))))))) (T4 (T2 q3)))) (T4 (T2 q2))))) (True /\ 4 <= 4 /\ T4 (T2 q2)))))))):=by kernel_rfl
def vcPk : bH:=cT Tryz.prog [47,52] (aU [⟨48,sM⟩,⟨49,aIG⟩,⟨50,aMi⟩,⟨46,aQs⟩,⟨51,wW⟩,⟨53,uU⟩] aI) 2
theorem aMj (p : Part) (m : Mats) (H : HT) (Post : PV) : vcP Tryz.prog vcPk 15 [] [dX p,bD m] H Post = (let q4:=T2 (True /\ Post (vi 0)); let q3:=True /\ Post (vi 9); let q2:=[Value.agg #[vi p.at_.x,vi p.at_.y,vi p.at_.z,vi p.turn]]; let q1:=#[vs p.id,vi p.rev,vi p.kind,vs p.node,vs p.grade,vi p.thick,aR p.outer,eX p.holes,vs p.sect,vi p.long,vi p.mass,vi p.centre.x,vi p.centre.y,vi p.centre.z,vi p.at_.x,vi p.at_.y,vi p.at_.z,vi p.turn]; T4 (True /\ ∃ (s : ByteArray),eqL [vs p.id] [vs s] /\ pIf (decide (nK s)) (T4 (∃ (s : ByteArray),eqL [vs p.node] [vs s] /\ pIf (decide (nK s)) (T8 (True /\ pIf (decide (p.rev >= 1)) (T4 (pIf (decide (p.rev <= 1000)) (T4 (T2 (True /\ pIf (decide (cB p.kind = 0)) (T2 (True /\ Post (vi 10))) (T2 (∃ (p_1 : Part),eqL [Value.agg q1] [dX p_1] /\ FitQ p_1 /\ pIf (decide (iD p_1)) (T2 (True /\ Post (vi 2))) (T2 (True /\ ∃ (p_2 : Part),∃ (m_1 : Mats),eqL [Value.agg q1,bD m] [dX p_2,bD m_1] /\ FewM m_1 /\ pIf (decide (mR p_2 m_1)) (T4 (True /\ pIf (decide (cB p.kind = 1)) (T2 (True /\ ∃ (o : List Pt),∃ (hs : List (List Pt)),eqL [Value.agg #[aR p.outer,eX p.holes]] [dA o hs] /\ aH o /\ aH hs /\ (∀ (h : List Pt),h ∈ hs -> aH h) /\ T2 (True /\ pIf (!decide (cA o hs = 0)) (T2 (True /\ Post (vi (cA o hs)))) (T2 (∃ (a : Vec3),∃ (k : Int),eqL q2 [fY a k] /\ pIf (decide (dW a k)) q4 (T2 q3)))))) (T2 (pIf (decide (cB p.kind = 2)) (T4 (T2 (True /\ pIf (decide (p.long >= 1)) (T4 (pIf (decide (p.long <= 32768)) (T4 (True /\ ∃ (a : Vec3),∃ (k : Int),eqL q2 [fY a k] /\ pIf (decide (dW a k)) q4 (T2 q3))) (T4 q3))) (T4 (T2 (Post (vi 9))))))) (T2 (pIf (decide (cB p.kind = 3)) (T4 (T2 (True /\ pIf (decide (p.mass >= 1)) (T4 (pIf (decide (p.mass <= 1099511627776)) (T8 (T2 (∃ (a : Vec3),∃ (k : Int),eqL [Value.agg #[vi p.centre.x,vi p.centre.y,vi p.centre.z,vi 0]] [fY a k] /\ pIf (decide (dW a k)) (T4 (True /\ ∃ (a : Vec3),∃ (k : Int),eqL q2 [fY a k] /\ pIf (decide (dW a k)) q4 (T2 q3))) (T4 q3)))) (T4 (T2 q3)))) (T8 (Post (vi 9)))))) (T2 (True /\ ∃ (a : Vec3),∃ (k : Int),eqL q2 [fY a k] /\ pIf (decide (dW a k)) q4 (T2 q3))))))))) (T4 (Post (vi 23)))))))))) (T4 (T2 (Post (vi 9)))))) (T4 (T2 q3)))) (T4 (True /\ Post (vi 6))))) (T4 (T2 (Post (vi 6)))))):=by kernel_rfl
theorem aFj (k : Int) : cB k = 0 ∨ cB k = 1 ∨ cB k = 2 ∨ cB k = 3:=by
 unfold cB
 repeat' split
 all_goals simp
theorem uQ : aZ Tryz.prog ⟨48,sM⟩:=by
 intro args Post hc
 unfold sM at hc
 dsimp only at hc
 split at hc
 case h_2=>exact hc.elim
 rename_i k
 refine aN aD mixed (by kernel_rfl) (by kernel_rfl) _ (aRG k _ _) ?_
 unfold cB at hc
 simp only [true_and]
 refine ifD (fun h1=>?_) (fun h1=>?_)
 ·rwa [if_pos h1] at hc
 rw [if_neg h1] at hc
 refine ifD (fun h2=>?_) (fun h2=>ifD (fun h3=>?_) (fun h3=>?_))
 ·rwa [if_pos (.inl h2)] at hc
 ·rwa [if_pos (.inr h3)] at hc
 rw [if_neg (by omega)] at hc
 refine ifD (fun h4=>?_) (fun h4=>?_)
 ·rwa [if_pos h4] at hc
 ·rwa [if_neg h4] at hc
theorem aGa (c : Vec3) : (decide (c.x = 0) && (decide (c.y = 0) && (decide (c.z = 0) && true))) = decide (c = ⟨0,0,0⟩):=by
 cases c with
 | mk x y z =>
  simp only [Vec3.mk.injEq,Bool.and_true]
  by_cases h1 : x = 0 <;> by_cases h2 : y = 0 <;> by_cases h3 : z = 0 <;> simp [h1,h2,h3]
theorem aLA {p : Part} (hf : FitQ p) : (IntKind.i64.wrap ((p.outer.length : Int) + (p.holes.length : Int)) > 0) = (0 < p.outer.length + p.holes.length):=by
 have:=hf.sum
 rw [bA (by omega) (by omega)]
 exact propext ⟨fun h=>by omega,fun h=>by omega⟩
theorem aMv : aZ Tryz.prog ⟨49,aIG⟩:=by
 rintro args Post ⟨p,rfl,hf,h⟩
 refine aN (aM (by
  intro e he
  simp only [mem_cons,not_mem_nil,or_false] at he
  subst he
  exact uQ) aD) mixed (by kernel_rfl) (by kernel_rfl) _ (aOr p _ _) ?_
 simp only [true_and,aGa,aLA hf]
 have yes : iD p -> Post (.bool true):=fun hp=>by rwa [decide_eq_true hp] at h
 have no : ¬ iD p -> Post (.bool false):=fun hp=>by rwa [decide_eq_false hp] at h
 clear h
 unfold iD gY jN jQ at yes no
 generalize p.thick = q2 at *
 generalize p.sect = q3 at *
 generalize p.long = q4 at *
 generalize p.mass = q5 at *
 generalize p.centre = q6 at *
 generalize p.grade = q7 at *
 generalize cB p.kind = q8 at *
 repeat' (first
  | refine ifN (fun _=>?_) (fun _=>?_)
  | refine ifD (fun _=>?_) (fun _=>?_)
  | exact yes (by simp [*])
  | exact no (by simp [*])
  | fail)
theorem aPU : aW Tryz.prog vcMd:=bL mixed (aM (by
 intro e he
 simp only [mem_cons,not_mem_nil,or_false] at he
 rcases he with rfl | rfl | rfl | rfl
 ·exact uQ
 ·exact aBh
 ·exact aDT
 ·exact aKV) aD) 2
theorem aPG : aZ Tryz.prog ⟨50,aMi⟩:=by
 rintro args Post ⟨p,m,rfl,hf,h⟩
 refine aN aPU mixed (by kernel_rfl) (by kernel_rfl) _ (aRZ p m _ _) ?_
 simp only [true_and]
 have yes : mR p m -> Post (.bool true):=fun hp=>by rwa [decide_eq_true hp] at h
 have no : ¬ mR p m -> Post (.bool false):=fun hp=>by rwa [decide_eq_false hp] at h
 clear h
 refine ifD (fun h1=>yes (.inl h1)) (fun h1=>⟨m,p.grade,rfl,hf,ifD (fun h2=>⟨by decide,?_⟩) (fun h2=>⟨by decide,no ?_⟩)⟩)
 case refine_2=>rintro (h | h); exact h1 h; exact h2 h.1
 refine ifD (fun h3=>ifD (fun h4=>?_) (fun h4=>no ?_)) (fun h3=>no ?_)
 case refine_2=>rintro (h | h); exact h1 h; exact h4 h.2.1.2
 case refine_3=>rintro (h | h); exact h1 h; exact h3 h.2.1.1
 refine ifD (fun h5=>?_) (fun h5=>⟨m,p.sect,rfl,hf,ifD (fun h6=>⟨by decide,?_⟩) (fun h6=>⟨by decide,no ?_⟩)⟩)
 ·refine ifD (fun h6=>ifD (fun h7=>⟨m,p.grade,p.thick,rfl,hf,ifD (fun h8=>yes (.inr ⟨h2,⟨h3,h4⟩,.inl ⟨h5,⟨h6,h7⟩,h8⟩⟩)) (fun h8=>no ?_)⟩) (fun h7=>no ?_)) (fun h6=>no ?_)
  ·rintro (h | ⟨_,_,h | h⟩)
   ·exact h1 h
   ·exact h8 h.2.2
   ·exact h.1 h5
  ·rintro (h | ⟨_,_,h | h⟩)
   ·exact h1 h
   ·exact h7 h.2.1.2
   ·exact h.1 h5
  ·rintro (h | ⟨_,_,h | h⟩)
   ·exact h1 h
   ·exact h6 h.2.1.1
   ·exact h.1 h5
 ·refine ifD (fun h7=>ifD (fun h8=>ifD (fun h9=>ifD (fun h10=>yes (.inr ⟨h2,⟨h3,h4⟩,.inr ⟨h5,h6,⟨h7,h8⟩,h9,h10⟩⟩)) (fun h10=>no ?_)) (fun h9=>no ?_)) (fun h8=>no ?_)) (fun h7=>no ?_)
  ·rintro (h | ⟨_,_,h | h⟩)
   ·exact h1 h
   ·exact h5 h.1
   ·exact h10 h.2.2.2.2
  ·rintro (h | ⟨_,_,h | h⟩)
   ·exact h1 h
   ·exact h5 h.1
   ·exact h9 h.2.2.2.1
  ·rintro (h | ⟨_,_,h | h⟩)
   ·exact h1 h
   ·exact h5 h.1
   ·exact h8 h.2.2.1.2
  ·rintro (h | ⟨_,_,h | h⟩)
   ·exact h1 h
   ·exact h5 h.1
   ·exact h7 h.2.2.1.1
 ·rintro (h | ⟨_,_,h | h⟩)
  ·exact h1 h
  ·exact h5 h.1
  ·exact h6 h.2.1
theorem aRj : aZ Tryz.prog ⟨46,aQs⟩:=by
 rintro args Post ⟨s,rfl,h⟩
 have hok : aW Tryz.prog (aU aJ3 aI):=aM (by
  intro e he
  simp only [aJ3,mem_cons,not_mem_nil,or_false] at he
  rcases he with rfl | rfl
  ·exact aNO
  ·exact aL3) aD
 refine aN (vc:=aU aJ3 aI) hok mixed (by kernel_rfl) (by kernel_rfl) _ (e_id s _ _) ?_
 simp only [true_and]
 have no : ¬ nK s -> Post (.bool false):=fun hn=>aBK h (decide_eq_false hn)
 refine aE (fun h1=>?_) (fun h1=>no fun f=>absurd f.1 (by have:=of_decide_eq_false h1; omega))
 have h1:=of_decide_eq_true h1
 have hv:=aHq s
 refine ⟨s,rfl,by omega,cC s,rfl,by omega,aE (fun h2=>?_) (fun h2=>no fun f=>?_)⟩
 ·obtain ⟨_,g2,g3,_⟩:=of_decide_eq_true h2
  exact aBK h (decide_eq_true ⟨by omega,g2,g3⟩)
 ·refine of_decide_eq_false h2 ⟨?_,f.2.1,f.2.2,by omega⟩
  rcases Nat.eq_zero_or_pos (cC s).length with h0 | h0
  ·exact absurd (List.eq_nil_of_length_eq_zero h0) (aCB s)
  ·exact h0
theorem aPw : aW Tryz.prog vcPk:=bL mixed (aM (by
 intro e he
 simp only [mem_cons,not_mem_nil,or_false] at he
 rcases he with rfl | rfl | rfl | rfl | rfl | rfl
 ·exact uQ
 ·exact aMv
 ·exact aPG
 ·exact aRj
 ·exact aIc
 ·exact aK7) aD) 2
theorem aBx (c : Vec3) : dW c 0 ↔ inV c 524288:=⟨fun h=>h.1,fun h=>⟨h,rfl⟩⟩
theorem aCV : aZ Tryz.prog ⟨15,aBi⟩:=by
 rintro args Post ⟨p,m,rfl,hq,hf,h⟩
 refine aN aPw mixed (by kernel_rfl) (by kernel_rfl) _ (aMj p m _ _) ?_
 simp only [true_and]
 unfold bF at h
 refine ⟨p.id,rfl,ifD (fun h1=>⟨p.node,rfl,ifD (fun h2=>?_) (fun h2=>?_)⟩) (fun h1=>?_)⟩
 case refine_2=>rwa [if_pos (.inr h2)] at h
 case refine_3=>rwa [if_pos (.inl h1)] at h
 rw [if_neg (by rintro (h | h); exact h h1; exact h h2)] at h
 refine ifD (fun h3=>ifD (fun h4=>?_) (fun h4=>?_)) (fun h3=>?_)
 case refine_2=>rwa [if_pos (by omega)] at h
 case refine_3=>rwa [if_pos (by omega)] at h
 rw [if_neg (by omega)] at h
 refine ifD (fun h5=>?_) (fun h5=>⟨p,rfl,hq,ifD (fun h6=>?_) (fun h6=>⟨p,m,rfl,hf,ifD (fun h7=>?_) (fun h7=>?_)⟩)⟩)
 ·rwa [if_pos h5] at h
 ·rwa [if_neg h5,if_pos h6] at h
 case refine_4=>rwa [if_neg h5,if_neg h6,if_pos h7] at h
 rw [if_neg h5,if_neg h6,if_neg (fun hn=>hn h7)] at h
 -- the placement,behind the body
 have last : gU p = 0 -> ∃ (a : Vec3) (k : Int),eqL [fY p.at_ p.turn] [fY a k] /\ pIf (decide (dW a k)) (Post (.int .i64 0)) (Post (.int .i64 9)):=fun hb=>by
  rw [if_neg (by rw [hb]; exact fun h=>h rfl)] at h
  refine ⟨p.at_,p.turn,rfl,ifD (fun h8=>?_) (fun h8=>?_)⟩
  ·rwa [if_neg (fun hn=>hn h8)] at h
  ·rwa [if_pos h8] at h
 have bad : ∀ e : Int,gU p = e -> e ≠ 0 -> Post (.int .i64 e):=fun e he hn=>by
  rw [if_pos (by rw [he]; exact hn),he] at h
  exact h
 unfold gU at last bad
 refine ifD (fun f1=>⟨p.outer,p.holes,rfl,hq.outer,hq.holes,hq.all,ifN (fun g=>bad _ (by rw [if_pos f1]) g) (fun g=>last (by rw [if_pos f1]; exact g))⟩) (fun f1=>?_)
 rw [if_neg f1] at last bad
 refine ifD (fun f2=>?_) (fun f2=>?_)
 ·rw [if_pos f2] at last bad
  refine ifD (fun g1=>ifD (fun g2=>last (by rw [if_neg (by omega)])) (fun g2=>bad 9 (by rw [if_pos (by omega)]) (by decide))) (fun g1=>bad 9 (by rw [if_pos (by omega)]) (by decide))
 rw [if_neg f2] at last bad
 refine ifD (fun f3=>?_) (fun f3=>?_)
 ·refine ifD (fun g1=>ifD (fun g2=>⟨p.centre,0,rfl,ifD (fun g3=>last ?_) (fun g3=>bad 9 ?_ (by decide))⟩) (fun g2=>bad 9 (by rw [if_pos (.inr (.inl (by omega)))]) (by decide))) (fun g1=>bad 9 (by rw [if_pos (.inl (by omega))]) (by decide))
  ·rw [if_neg]
   rintro (h | h | h)
   ·omega
   ·omega
   ·exact h ((aBx _).1 g3)
  ·rw [if_pos (.inr (.inr fun hi=>g3 ((aBx _).2 hi)))]
 ·have:=aFj p.kind
  omega
abbrev jA (n : Int) : Int:=wrap .i64 n
def zC (p : Part) (m : Mats) : Int:=if cB p.kind = 1 then jA (Int.tdiv (jA (jA (rArea p.outer p.holes * p.thick) * (aX m p.grade).dens)) 2000000) else if cB p.kind = 2 then jA (Int.tdiv (jA (jA ((bZ m p.sect).area * p.long) * (aX m p.grade).dens)) 1000000) else p.mass
def bT (p : Part) (m : Mats) : Int:=if bF p m = 0 then zC p m else 0
def wN (p : Part) (m : Mats) : Vec3:=if cB p.kind = 1 then ⟨eL (rMomX p.outer p.holes) (3 * rArea p.outer p.holes),eL (rMomY p.outer p.holes) (3 * rArea p.outer p.holes),eL p.thick 2⟩ else if cB p.kind = 2 then ⟨eL p.long 2,0,eL (bZ m p.sect).height 2⟩ else p.centre
def eR (p : Part) (m : Mats) : Vec3:=if bF p m = 0 then wN p m else ⟨0,0,0⟩
structure Wt where
 m : Int
 x : Int
 y : Int
 z : Int
 v : Int
 deriving DecidableEq
def wt0 : Wt:=⟨0,0,0,0,0⟩
abbrev wtV (w : Wt) : Value:=.agg #[.int .i64 w.m,.int .i64 w.x,.int .i64 w.y,.int .i64 w.z,.int .i64 w.v]
def aT (p : Part) (m : Mats) : Wt:=if bF p m = 0 then ⟨bT p m,jA (bT p m * (jZ p.at_ p.turn (eR p m)).x),jA (bT p m * (jZ p.at_ p.turn (eR p m)).y),jA (bT p m * (jZ p.at_ p.turn (eR p m)).z),jA (fQ (bT p m) 50000 * fQ (bT p m) 50000)⟩ else wt0
def aNo (args : List Value) (Post : Value -> Prop) : Prop:=∃ (p : Part) (m : Mats),args = [dX p,bD m] /\ FitQ p /\ FewM m /\ Post (.tuple #[.int .i64 (bT p m),.int .i64 (bF p m)])
def aGu (args : List Value) (Post : Value -> Prop) : Prop:=∃ (p : Part) (m : Mats),args = [dX p,bD m] /\ FitQ p /\ FewM m /\ Post (.tuple #[iB (eR p m),.int .i64 (bF p m)])
def aEu (args : List Value) (Post : Value -> Prop) : Prop:=∃ (p : Part) (m : Mats),args = [dX p,bD m] /\ FitQ p /\ FewM m /\ Post (.tuple #[wtV (aT p m),.int .i64 (bF p m)])
def vcMa : bH:=aU [⟨48,sM⟩,⟨15,aBi⟩,⟨62,zK⟩,⟨63,sS⟩,⟨64,aBp⟩] aI
theorem aRk (p : Part) (m : Mats) (H : HT) (Post : PV) : vcP Tryz.prog vcMa 18 [] [dX p,bD m] H Post = (let q7:=decide (cB p.kind = 2); let q6:=decide (cB p.kind = 1); let q5:=toI (vi 1000000) = 0 -> False; let q4:=toI (vi 2000000) = 0 -> False; let q3:=[Value.agg #[aR p.outer,eX p.holes]]; let q2:=T4 (True /\ (T2 (True)) /\ Post (Value.tuple #[vi p.mass,vi 0])); let q1:=(dO m).toArray; T4 (T2 (∃ (p_1 : Part),∃ (m_1 : Mats),eqL [Value.agg #[vs p.id,vi p.rev,vi p.kind,vs p.node,vs p.grade,vi p.thick,aR p.outer,eX p.holes,vs p.sect,vi p.long,vi p.mass,vi p.centre.x,vi p.centre.y,vi p.centre.z,vi p.at_.x,vi p.at_.y,vi p.at_.z,vi p.turn],Value.agg q1] [dX p_1,bD m_1] /\ FitQ p_1 /\ FewM m_1 /\ T2 (True /\ pIf (!decide (bF p_1 m_1 = 0)) (T2 (True /\ (T2 (True)) /\ Post (Value.tuple #[vi 0,vi (bF p_1 m_1)]))) (T2 (True /\ ∃ (m_2 : Mats),∃ (s : ByteArray),eqL [Value.agg q1,vs p.grade] [bD m_2,vs s] /\ FewM m_2 /\ T2 (True /\ pIf (decide (mP m_2 s)) (True /\ 4 <= 4 /\ T4 (∃ (m_3 : Mats),∃ (s_1 : ByteArray),eqL [Value.agg q1,vs p.sect] [bD m_3,vs s_1] /\ FewM m_3 /\ T2 (True /\ pIf (decide (oV m_3 s_1)) (True /\ 4 <= 4 /\ T4 (pIf q6 (T4 (T2 (True /\ ∃ (o : List Pt),∃ (hs : List (List Pt)),eqL q3 [dA o hs] /\ aH o /\ aH hs /\ (∀ (h : List Pt),h ∈ hs -> aH h) /\ T2 (True /\ q4 /\ T2 ((T2 (True)) /\ Post (Value.tuple #[vi (wrap i64 (Int.tdiv (wrap i64 (wrap i64 (rArea o hs * p.thick) * Grade4.dens (aX m_2 s))) 2000000)),vi 0])))))) (T2 (pIf q7 (T8 (True /\ q5 /\ T2 ((T2 (True)) /\ Post (Value.tuple #[vi (wrap i64 (Int.tdiv (wrap i64 (wrap i64 (Sect4.area (bZ m_3 s_1) * p.long) * Grade4.dens (aX m_2 s))) 1000000)),vi 0])))) q2)))) (True /\ 4 <= 4 /\ T4 (pIf q6 (T4 (T2 (True /\ ∃ (o : List Pt),∃ (hs : List (List Pt)),eqL q3 [dA o hs] /\ aH o /\ aH hs /\ (∀ (h : List Pt),h ∈ hs -> aH h) /\ T2 (True /\ q4 /\ T2 ((T2 (True)) /\ Post (Value.tuple #[vi (wrap i64 (Int.tdiv (wrap i64 (wrap i64 (rArea o hs * p.thick) * Grade4.dens (aX m_2 s))) 2000000)),vi 0])))))) (T2 (pIf q7 (T8 (True /\ q5 /\ T2 ((T2 (True)) /\ Post (Value.tuple #[vi (wrap i64 (Int.tdiv (wrap i64 (wrap i64 (Sect4.area (bZ m_3 s_1) * p.long) * Grade4.dens (aX m_2 s))) 1000000)),vi 0])))) q2))))))) (True /\ 4 <= 4 /\ T4 (∃ (m_3 : Mats),∃ (s_1 : ByteArray),eqL [Value.agg q1,vs p.sect] [bD m_3,vs s_1] /\ FewM m_3 /\ T2 (True /\ pIf (decide (oV m_3 s_1)) (True /\ 4 <= 4 /\ T4 (pIf q6 (T4 (T2 (True /\ ∃ (o : List Pt),∃ (hs : List (List Pt)),eqL q3 [dA o hs] /\ aH o /\ aH hs /\ (∀ (h : List Pt),h ∈ hs -> aH h) /\ T2 (True /\ q4 /\ T2 ((T2 (True)) /\ Post (Value.tuple #[vi (wrap i64 (Int.tdiv (wrap i64 (wrap i64 (rArea o hs * p.thick) * Grade4.dens (aX m_2 s))) 2000000)),vi 0])))))) (T2 (pIf q7 (T8 (True /\ q5 /\ T2 ((T2 (True)) /\ Post (Value.tuple #[vi (wrap i64 (Int.tdiv (wrap i64 (wrap i64 (Sect4.area (bZ m_3 s_1) * p.long) * Grade4.dens (aX m_2 s))) 1000000)),vi 0])))) q2)))) (True /\ 4 <= 4 /\ T4 (pIf q6 (T4 (T2 (True /\ ∃ (o : List Pt),∃ (hs : List (List Pt)),eqL q3 [dA o hs] /\ aH o /\ aH hs /\ (∀ (h : List Pt),h ∈ hs -> aH h) /\ T2 (True /\ q4 /\ T2 ((T2 (True)) /\ Post (Value.tuple #[vi (wrap i64 (Int.tdiv (wrap i64 (wrap i64 (rArea o hs * p.thick) * Grade4.dens (aX m_2 s))) 2000000)),vi 0])))))) (T2 (pIf q7 (T8 (True /\ q5 /\ T2 ((T2 (True)) /\ Post (Value.tuple #[vi (wrap i64 (Int.tdiv (wrap i64 (wrap i64 (Sect4.area (bZ m_3 s_1) * p.long) * Grade4.dens (aX m_2 s))) 1000000)),vi 0])))) q2)))))))))))))):=by kernel_rfl
def vcCe : bH:=cT Tryz.prog [69] (aU [⟨48,sM⟩,⟨15,aBi⟩,⟨63,sS⟩,⟨64,aBp⟩,⟨68,aNB⟩,⟨142,aJ0⟩] aI) 2
theorem aMg (p : Part) (m : Mats) (H : HT) (Post : PV) : vcP Tryz.prog vcCe 20 [] [dX p,bD m] H Post = (let q4:=(vi p.thick = vi p.thick /\ True) /\ True; let q3:=[Value.agg #[aR p.outer,eX p.holes]]; let q2:=(dO m).toArray; let q1:=(T2 (True /\ True)) /\ True /\ True; T4 (T2 (∃ (p_1 : Part),∃ (m_1 : Mats),eqL [Value.agg #[vs p.id,vi p.rev,vi p.kind,vs p.node,vs p.grade,vi p.thick,aR p.outer,eX p.holes,vs p.sect,vi p.long,vi p.mass,vi p.centre.x,vi p.centre.y,vi p.centre.z,vi p.at_.x,vi p.at_.y,vi p.at_.z,vi p.turn],Value.agg q2] [dX p_1,bD m_1] /\ FitQ p_1 /\ FewM m_1 /\ T2 (True /\ pIf (!decide (bF p_1 m_1 = 0)) (T2 (3 <= 3 /\ True /\ q1 /\ Post (Value.tuple #[Value.agg #[vi 0,vi 0,vi 0],vi (bF p_1 m_1)]))) (T2 (True /\ pIf (decide (cB p.kind = 1)) (T2 (True /\ ∃ (o : List Pt),∃ (hs : List (List Pt)),eqL q3 [dA o hs] /\ aH o /\ aH hs /\ (∀ (h : List Pt),h ∈ hs -> aH h) /\ T4 (T2 (True /\ ∃ (o_1 : List Pt),∃ (hs_1 : List (List Pt)),eqL q3 [dA o_1 hs_1] /\ aH o_1 /\ aH hs_1 /\ (∀ (h : List Pt),h ∈ hs_1 -> aH h) /\ T8 (T2 (True /\ ∃ (a : Int),∃ (b : Int),eqL [vi (rMomX o hs),vi (wrap i64 (3 * rArea o_1 hs_1))] [vi a,vi b] /\ Quo a b /\ T4 (T2 (True /\ q4 /\ T2 (True /\ ∃ (a_1 : Int),∃ (b_1 : Int),eqL [vi (rMomY o hs),vi (wrap i64 (3 * rArea o_1 hs_1))] [vi a_1,vi b_1] /\ Quo a_1 b_1 /\ T4 (T2 (True /\ q4 /\ T2 (True /\ ∃ (a_2 : Int),∃ (b_2 : Int),eqL [vi p.thick,vi 2] [vi a_2,vi b_2] /\ Quo a_2 b_2 /\ T8 (True /\ 3 <= 3 /\ T2 (q1 /\ Post (Value.tuple #[Value.agg #[vi (eL a b),vi (eL a_1 b_1),vi (eL a_2 b_2)],vi 0]))))))))))))))) (T2 (pIf (decide (cB p.kind = 2)) (T4 (∃ (m_2 : Mats),∃ (s : ByteArray),eqL [Value.agg q2,vs p.sect] [bD m_2,vs s] /\ FewM m_2 /\ T2 (True /\ pIf (decide (oV m_2 s)) (True /\ 4 <= 4 /\ T8 (∃ (a : Int),∃ (b : Int),eqL [vi p.long,vi 2] [vi a,vi b] /\ Quo a b /\ T4 (T2 (True /\ ((vi (Sect4.height (bZ m_2 s)) = vi (Sect4.height (bZ m_2 s)) /\ True) /\ True) /\ T2 (True /\ ∃ (a_1 : Int),∃ (b_1 : Int),eqL [vi (Sect4.height (bZ m_2 s)),vi 2] [vi a_1,vi b_1] /\ Quo a_1 b_1 /\ T8 (True /\ 3 <= 3 /\ T2 (q1 /\ Post (Value.tuple #[Value.agg #[vi (eL a b),vi 0,vi (eL a_1 b_1)],vi 0])))))))) (True /\ 4 <= 4 /\ T8 (∃ (a : Int),∃ (b : Int),eqL [vi p.long,vi 2] [vi a,vi b] /\ Quo a b /\ T4 (T2 (True /\ ((vi (Sect4.height (bZ m_2 s)) = vi (Sect4.height (bZ m_2 s)) /\ True) /\ True) /\ T2 (True /\ ∃ (a_1 : Int),∃ (b_1 : Int),eqL [vi (Sect4.height (bZ m_2 s)),vi 2] [vi a_1,vi b_1] /\ Quo a_1 b_1 /\ T8 (True /\ 3 <= 3 /\ T2 (q1 /\ Post (Value.tuple #[Value.agg #[vi (eL a b),vi 0,vi (eL a_1 b_1)],vi 0]))))))))))) (T2 (True /\ 3 <= 3 /\ True /\ q1 /\ Post (Value.tuple #[Value.agg #[vi p.centre.x,vi p.centre.y,vi p.centre.z],vi 0]))))))))))):=by kernel_rfl
def vcWe : bH:=aU [⟨18,aNo⟩,⟨20,aGu⟩,⟨72,aFm⟩,⟨73,aMy⟩] aI
theorem aM8 (p : Part) (m : Mats) (H : HT) (Post : PV) : vcP Tryz.prog vcWe 22 [] [dX p,bD m] H Post = (let q3:=#[vi 0,vi 0,vi 0,vi 0,vi 0]; let q2:=(T4 (True /\ True)) /\ True /\ True; let q1:=[Value.agg #[vs p.id,vi p.rev,vi p.kind,vs p.node,vs p.grade,vi p.thick,aR p.outer,eX p.holes,vs p.sect,vi p.long,vi p.mass,vi p.centre.x,vi p.centre.y,vi p.centre.z,vi p.at_.x,vi p.at_.y,vi p.at_.z,vi p.turn],bD m]; T4 (T2 (∃ (p_1 : Part),∃ (m_1 : Mats),eqL q1 [dX p_1,bD m_1] /\ FitQ p_1 /\ FewM m_1 /\ T4 (T2 (True /\ pIf (!decide (bF p_1 m_1 = 0)) (T2 (5 <= 5 /\ True /\ q2 /\ Post (Value.tuple #[Value.agg q3,vi (bF p_1 m_1)]))) (T2 (∃ (p_2 : Part),∃ (m_2 : Mats),eqL q1 [dX p_2,bD m_2] /\ FitQ p_2 /\ FewM m_2 /\ T4 (3 <= 3 /\ T2 (True /\ pIf (!decide (bF p_2 m_2 = 0)) (T2 (5 <= 5 /\ True /\ q2 /\ Post (Value.tuple #[Value.agg q3,vi (bF p_2 m_2)]))) (T2 (True /\ ∃ (a : Vec3),∃ (k : Int),∃ (v : Vec3),eqL [Value.agg #[vi p.at_.x,vi p.at_.y,vi p.at_.z,vi p.turn],Value.agg #[vi (Vec3.x (eR p_2 m_2)),vi (Vec3.y (eR p_2 m_2)),vi (Vec3.z (eR p_2 m_2))]] [fY a k,iB v] /\ True /\ 3 <= 3 /\ True /\ ∃ (a_1 : Int),∃ (b : Int),eqL [vi (bT p_1 m_1),vi 50000] [vi a_1,vi b] /\ Quo a_1 b /\ T16 (T4 (T2 (5 <= 5 /\ True /\ q2 /\ Post (Value.tuple #[Value.agg #[vi (bT p_1 m_1),vi (wrap i64 (bT p_1 m_1 * Vec3.x (jZ a k v))),vi (wrap i64 (bT p_1 m_1 * Vec3.y (jZ a k v))),vi (wrap i64 (bT p_1 m_1 * Vec3.z (jZ a k v))),vi (wrap i64 (fQ a_1 b * fQ a_1 b))],vi 0]))))))))))))))):=by kernel_rfl
theorem aPh : aW Tryz.prog vcMa:=aM (by
 intro e he
 simp only [mem_cons,not_mem_nil,or_false] at he
 rcases he with rfl | rfl | rfl | rfl | rfl
 ·exact uQ
 ·exact aCV
 ·exact aBh
 ·exact aDT
 ·exact aJ5) aD
theorem aFI {b : Bool} {X : Prop} (h : X) : pIf b X X:=by cases b <;> exact h
theorem aOn : aZ Tryz.prog ⟨18,aNo⟩:=by
 rintro args Post ⟨p,m,rfl,hq,hf,h⟩
 refine aN aPh mixed (by kernel_rfl) (by kernel_rfl) _ (aRk p m _ _) ?_
 simp only [true_and]
 unfold bT zC at h
 refine ⟨p,m,rfl,hq,hf,ifN (fun h1=>?_) (fun h1=>?_)⟩
 ·rwa [if_neg h1] at h
 rw [if_pos h1] at h
 rw [h1] at h
 refine ⟨m,p.grade,rfl,hf,?_⟩
 have last : pIf (decide (cB p.kind = 1)) (∃ (o : List Pt),∃ (hs : List (List Pt)),eqL [.agg #[aR p.outer,eX p.holes]] [dA o hs] /\ aH o /\ aH hs /\ (∀ (h : List Pt),h ∈ hs -> aH h) /\ (toI (.int .i64 2000000) = 0 -> False) /\ Post (.tuple #[.int .i64 (jA (Int.tdiv (jA (jA (rArea o hs * p.thick) * (aX m p.grade).dens)) 2000000)),.int .i64 0])) (pIf (decide (cB p.kind = 2)) ((toI (.int .i64 1000000) = 0 -> False) /\ Post (.tuple #[.int .i64 (jA (Int.tdiv (jA (jA ((bZ m p.sect).area * p.long) * (aX m p.grade).dens)) 1000000)),.int .i64 0])) (Post (.tuple #[.int .i64 p.mass,.int .i64 0]))):=by
  refine ifD (fun f1=>⟨p.outer,p.holes,rfl,hq.outer,hq.holes,hq.all,?_,?_⟩) (fun f1=>ifD (fun f2=>⟨?_,?_⟩) (fun f2=>?_))
  ·decide
  ·rwa [if_pos f1] at h
  ·decide
  ·rwa [if_neg f1,if_pos f2] at h
  ·rwa [if_neg f1,if_neg f2] at h
 exact ifD (fun _=>⟨by decide,m,p.sect,rfl,hf,ifD (fun _=>⟨by decide,last⟩) (fun _=>⟨by decide,last⟩)⟩) (fun _=>⟨by decide,m,p.sect,rfl,hf,ifD (fun _=>⟨by decide,last⟩) (fun _=>⟨by decide,last⟩)⟩)
theorem jV {p : Part} {m : Mats} (h : bF p m = 0) : cB p.kind ≠ 0 /\ ¬ iD p /\ mR p m /\ gU p = 0 /\ dW p.at_ p.turn /\ 1 <= p.rev /\ p.rev <= 1000:=by
 unfold bF at h
 by_cases h1 : ¬ nK p.id ∨ ¬ nK p.node
 ·rw [if_pos h1] at h; omega
 rw [if_neg h1] at h
 by_cases h2 : p.rev < 1 ∨ 1000 < p.rev
 ·rw [if_pos h2] at h; omega
 rw [if_neg h2] at h
 by_cases h3 : cB p.kind = 0
 ·rw [if_pos h3] at h; omega
 rw [if_neg h3] at h
 by_cases h4 : iD p
 ·rw [if_pos h4] at h; omega
 rw [if_neg h4] at h
 by_cases h5 : mR p m
 rotate_left
 ·rw [if_pos h5] at h; omega
 rw [if_neg (fun hn=>hn h5)] at h
 by_cases h6 : gU p = 0
 rotate_left
 ·rw [if_pos h6] at h; exact absurd h h6
 rw [if_neg (fun hn=>hn h6)] at h
 by_cases h7 : dW p.at_ p.turn
 rotate_left
 ·rw [if_pos h7] at h; omega
 exact ⟨h3,h4,h5,h6,h7,by omega,by omega⟩
theorem ShapeOk.rArea_bd {o : List Pt} {hs : List (List Pt)} (h : ShapeOk o hs) : 1 <= Go.Proofs.YtngginofamlkkaaGreatDoor.rArea o hs /\ Go.Proofs.YtngginofamlkkaaGreatDoor.rArea o hs <= 618475290624:=by
 have h1:=h.area
 rw [← h.rArea] at h1
 refine ⟨h1,?_⟩
 unfold Go.Proofs.YtngginofamlkkaaGreatDoor.rArea
 rw [if_pos ((cX o hs).2 h)]
 have h8:=h.few
 have h2:=kL (f:=dZ cE o hs) (M:=68719476736) (fun i=>aAv _) (hs.length + 1)
 omega
theorem aPJ (o : List Pt) (hs : List (List Pt)) : (-40532396646334464 <= rMomX o hs /\ rMomX o hs <= 40532396646334464) /\ (-40532396646334464 <= rMomY o hs /\ rMomY o hs <= 40532396646334464):=by
 unfold rMomX rMomY
 by_cases h : cA o hs = 0
 ·rw [if_pos h,if_pos h]
  have h8:=((cX o hs).1 h).few
  have h2:=kL (f:=dZ lB o hs) (M:=4503599627370496) (fun i=>aEN _) (hs.length + 1)
  have h3:=kL (f:=dZ lD o hs) (M:=4503599627370496) (fun i=>aG6 _) (hs.length + 1)
  omega
 ·rw [if_neg h,if_neg h]
  omega
theorem aOL : aW Tryz.prog vcCe:=bL mixed (aM (by
 intro e he
 simp only [mem_cons,not_mem_nil,or_false] at he
 rcases he with rfl | rfl | rfl | rfl | rfl | rfl
 ·exact uQ
 ·exact aCV
 ·exact aDT
 ·exact aJ5
 ·exact aP1
 ·exact aMx) aD) 2
theorem aA0 {p : Part} {m : Mats} (h : bF p m = 0) (f : cB p.kind = 1) : ShapeOk p.outer p.holes /\ 1 <= p.thick /\ p.thick <= 120 /\ 1000 <= (aX m p.grade).dens /\ (aX m p.grade).dens <= 20000:=by
 obtain ⟨_,_,h3,h4,_⟩:=jV h
 unfold gU at h4
 rw [if_pos f] at h4
 rcases h3 with h3 | ⟨_,h5,h6 | h6⟩
 ·omega
 ·exact ⟨(cX _ _).1 h4,h6.2.1.1,h6.2.1.2,h5.1,h5.2⟩
 ·exact absurd f h6.1
theorem aDJ {p : Part} {m : Mats} (h : bF p m = 0) (f : cB p.kind = 2) : (1 <= p.long /\ p.long <= 32768) /\ (1 <= (bZ m p.sect).area /\ (bZ m p.sect).area <= 1000000) /\ (1 <= (bZ m p.sect).height /\ (bZ m p.sect).height <= 2000) /\ 1000 <= (aX m p.grade).dens /\ (aX m p.grade).dens <= 20000:=by
 obtain ⟨_,_,h3,h4,_⟩:=jV h
 unfold gU at h4
 rw [if_neg (by omega),if_pos f] at h4
 rcases h3 with h3 | ⟨_,h5,h6 | h6⟩
 ·omega
 ·omega
 ·refine ⟨?_,h6.2.2.1,h6.2.2.2,h5.1,h5.2⟩
  by_cases hl : p.long < 1 ∨ 32768 < p.long
  ·rw [if_pos hl] at h4; omega
  ·omega
theorem aI7 {p : Part} {m : Mats} (h : bF p m = 0) (f1 : cB p.kind ≠ 1) (f2 : cB p.kind ≠ 2) : 1 <= p.mass /\ p.mass <= 1099511627776 /\ inV p.centre 524288:=by
 obtain ⟨_,_,_,h4,_⟩:=jV h
 unfold gU at h4
 rw [if_neg f1,if_neg f2] at h4
 by_cases hl : p.mass < 1 ∨ 1099511627776 < p.mass ∨ ¬ inV p.centre 524288
 ·rw [if_pos hl] at h4; omega
 ·refine ⟨by omega,by omega,?_⟩
  by_cases hi : inV p.centre 524288
  ·exact hi
  ·exact absurd (.inr (.inr hi)) hl
theorem aKP : aZ Tryz.prog ⟨20,aGu⟩:=by
 rintro args Post ⟨p,m,rfl,hq,hf,h⟩
 refine aN aOL mixed (by kernel_rfl) (by kernel_rfl) _ (aMg p m _ _) ?_
 simp only [true_and,and_true,le_refl]
 unfold eR wN at h
 refine ⟨p,m,rfl,hq,hf,ifN (fun h1=>?_) (fun h1=>?_)⟩
 ·rwa [if_neg h1] at h
 rw [if_pos h1,h1] at h
 refine ifD (fun f1=>?_) (fun f1=>ifD (fun f2=>?_) (fun f2=>?_))
 ·rw [if_pos f1] at h
  obtain ⟨ho,t1,t2,_⟩:=aA0 h1 f1
  have ha:=ho.rArea_bd
  have hm:=aPJ p.outer p.holes
  refine ⟨p.outer,p.holes,rfl,hq.outer,hq.holes,hq.all,p.outer,p.holes,rfl,hq.outer,hq.holes,hq.all,?_⟩
  rw [bA (n:=3 * rArea p.outer p.holes) (by omega) (by omega)]
  exact ⟨_,_,rfl,⟨⟨by omega,by omega,by omega,by omega⟩⟩,_,_,rfl,⟨⟨by omega,by omega,by omega,by omega⟩⟩,_,_,rfl,⟨⟨by omega,by omega,by omega,by omega⟩⟩,h⟩
 ·rw [if_neg f1,if_pos f2] at h
  obtain ⟨l,_,t,_⟩:=aDJ h1 f2
  refine ⟨m,p.sect,rfl,hf,?_⟩
  exact ifD (fun _=>⟨_,_,rfl,⟨⟨by omega,by omega,by omega,by omega⟩⟩,_,_,rfl,⟨⟨by omega,by omega,by omega,by omega⟩⟩,h⟩) (fun _=>⟨_,_,rfl,⟨⟨by omega,by omega,by omega,by omega⟩⟩,_,_,rfl,⟨⟨by omega,by omega,by omega,by omega⟩⟩,h⟩)
 ·rwa [if_neg f1,if_neg f2] at h
theorem jM {n : Int} (h1 : -9223372036854775808 <= n) (h2 : n <= 9223372036854775807) : jA n = n:=bA (by omega) (by omega)
theorem aI9 {a b c A B C : Int} (ha : 0 <= a /\ a <= A) (hb : 0 <= b /\ b <= B) (hc : 0 <= c /\ c <= C) : 0 <= a * b /\ a * b <= A * B /\ 0 <= a * b * c /\ a * b * c <= A * B * C:=by
 have h1 : 0 <= a * b:=Int.mul_nonneg ha.1 hb.1
 have h2 : a * b <= A * B:=Int.mul_le_mul ha.2 hb.2 hb.1 (by omega)
 exact ⟨h1,h2,Int.mul_nonneg h1 hc.1,Int.mul_le_mul h2 hc.2 hc.1 (by omega)⟩
theorem tS (p : Part) (m : Mats) : 0 <= bT p m /\ bT p m <= 1099511627776:=by
 unfold bT zC
 by_cases h : bF p m = 0
 rotate_left
 ·rw [if_neg h]; omega
 rw [if_pos h]
 by_cases f1 : cB p.kind = 1
 ·rw [if_pos f1]
  obtain ⟨ho,t1,t2,d1,d2⟩:=aA0 h f1
  have ha:=ho.rArea_bd
  obtain ⟨b1,b2,b3,b4⟩:=aI9 (a:=rArea p.outer p.holes) (b:=p.thick) (c:=(aX m p.grade).dens) (A:=618475290624) (B:=120) (C:=20000) (by omega) (by omega) (by omega)
  rw [jM (n:=rArea p.outer p.holes * p.thick) (by omega) (by omega),jM (n:=rArea p.outer p.holes * p.thick * (aX m p.grade).dens) (by omega) (by omega),Int.tdiv_eq_ediv_of_nonneg b3]
  rw [jM (by omega) (by omega)]
  omega
 rw [if_neg f1]
 by_cases f2 : cB p.kind = 2
 ·rw [if_pos f2]
  obtain ⟨l,a,t,d1,d2⟩:=aDJ h f2
  obtain ⟨b1,b2,b3,b4⟩:=aI9 (a:=(bZ m p.sect).area) (b:=p.long) (c:=(aX m p.grade).dens) (A:=1000000) (B:=32768) (C:=20000) (by omega) (by omega) (by omega)
  rw [jM (n:=(bZ m p.sect).area * p.long) (by omega) (by omega),jM (n:=(bZ m p.sect).area * p.long * (aX m p.grade).dens) (by omega) (by omega),Int.tdiv_eq_ediv_of_nonneg b3]
  rw [jM (by omega) (by omega)]
  omega
 rw [if_neg f2]
 have:=aI7 h f1 f2
 omega
theorem aPF : aW Tryz.prog vcWe:=aM (by
 intro e he
 simp only [mem_cons,not_mem_nil,or_false] at he
 rcases he with rfl | rfl | rfl | rfl
 ·exact aOn
 ·exact aKP
 ·exact aKI
 ·exact aOR) aD
theorem aJV : aZ Tryz.prog ⟨22,aEu⟩:=by
 rintro args Post ⟨p,m,rfl,hq,hf,h⟩
 refine aN aPF mixed (by kernel_rfl) (by kernel_rfl) _ (aM8 p m _ _) ?_
 simp only [true_and,and_true,le_refl]
 unfold aT at h
 refine ⟨p,m,rfl,hq,hf,ifN (fun h1=>?_) (fun h1=>⟨p,m,rfl,hq,hf,ifN (fun h2=>?_) (fun _=>?_)⟩)⟩
 ·rwa [if_neg h1] at h
 ·exact absurd h1 h2
 rw [if_pos h1,h1] at h
 have hm:=tS p m
 exact ⟨p.at_,p.turn,eR p m,rfl,bT p m,50000,rfl,⟨⟨by omega,by omega,by omega,by omega⟩⟩,h⟩
structure FitR (p : Part) : Prop extends FitQ p where
 id : p.id.size < 16777000
 node : p.node.size < 16777000
def wQ (args : List Value) (Post : Value -> Prop) : Prop:=∃ (p : Part) (m : Mats),args = [dX p,bD m] /\ FitR p /\ FewR m /\ Post (.int .i64 (bF p m))
def aIO (args : List Value) (Post : Value -> Prop) : Prop:=∃ (p : Part) (m : Mats),args = [dX p,bD m] /\ FitR p /\ FewR m /\ Post (.tuple #[.int .i64 (bT p m),.int .i64 (bF p m)])
def aFy (args : List Value) (Post : Value -> Prop) : Prop:=∃ p : Part,args = [dX p] /\ FitQ p /\ cB p.kind ≠ 0 /\ Post (.bool (decide (iD p)))
def aIL (args : List Value) (Post : Value -> Prop) : Prop:=∃ (p : Part) (m : Mats),args = [dX p,bD m] /\ FewR m /\ cB p.kind ≠ 0 /\ Post (.bool (decide (mR p m)))
theorem aNz (p : Part) (H : HT) (Post : PV) : vcP Tryz.prog (cT Tryz.prog [128] aI 2) 55 [] [dX p] H Post = (let q11:=decide (p.kind = 4); let q5:=True /\ Post (vb true); let q15:=T2 (pIf q11 (T8 q5) (T4 (T2 q5))); let q10:=!decide (p.mass = 0); let q7:=decide (p.kind = 1); let q8:=T4 (T2 (Post (vb true))); let q3:=T2 (pIf q11 (T8 (Post (vb true))) q8); let q6:=!(decide (p.centre.x = 0) && (decide (p.centre.y = 0) && (decide (p.centre.z = 0) && true))); let q2:=T4 (True /\ pIf q6 (T4 (True /\ pIf q7 q8 q3)) (T4 (True /\ pIf q7 q8 q3))); let q14:=T4 (T2 (pIf q10 (T4 (T2 (pIf q7 q8 q3))) q2)); let q13:=!decide (p.sect = ByteArray.mk #[]); let q12:=T2 (True /\ Post (vb false)); let q9:=T8 (True /\ pIf (!decide (p.grade = ByteArray.mk #[])) (T2 q5) q12); let q4:=T4 (True /\ pIf q6 (T4 (True /\ pIf q7 q8 q15)) (T4 (True /\ pIf q7 q8 (T2 (pIf q11 (T8 q5) (T4 q12)))))); let q1:=T4 (pIf (!decide (p.long = 0)) (T4 (True /\ pIf q10 (T4 (T2 (pIf q7 q8 q3))) q2)) (T4 (True /\ pIf q10 (T4 (T2 (pIf q7 (T4 (T2 q5)) q3))) (T4 (True /\ pIf q6 (T4 (True /\ pIf q7 (T4 (T2 q5)) q3)) (T4 (True /\ pIf q7 (T4 q12) q3))))))); T4 (True /\ pIf (!decide (p.thick = 0)) (T4 (T2 (pIf q13 q14 q1))) (T8 (True /\ pIf (decide ((↑p.outer.length : Int) = 0)) (T4 (True /\ pIf (decide ((↑p.holes.length : Int) = 0)) (T8 (pIf q13 (T4 (T2 (pIf q10 (T4 (T2 (pIf q7 q8 q15))) q4))) (T4 (pIf (!decide (p.long = 0)) (T4 (True /\ pIf q10 (T4 (T2 (pIf q7 q8 q15))) q4)) (T4 (True /\ pIf q10 (T4 (T2 (pIf q7 (T4 (T2 q5)) (T2 (pIf q11 q9 (T4 (T2 q5))))))) (T4 (True /\ pIf q6 (T4 (True /\ pIf q7 (T4 (T2 q5)) (T2 (pIf q11 q9 (T4 (T2 q5)))))) (T4 (True /\ pIf q7 (T4 q12) (T2 (pIf q11 q9 (T4 q12))))))))))))) (T8 (pIf q13 q14 q1)))) (T8 (True /\ pIf q13 q14 q1)))))):=by kernel_rfl
def vcRk : bH:=aU [⟨65,uP⟩,⟨66,sS⟩,⟨129,aBR⟩] aI
theorem aQ1 (p : Part) (m : Mats) (H : HT) (Post : PV) : vcP Tryz.prog vcRk 56 [] [dX p,bD m] H Post = (let q2:=True /\ Post (vb false); let q1:=(dO m).toArray; T4 (T2 (pIf (decide (p.kind = 4)) (T2 (Post (vb true))) (T2 (True /\ ∃ (m_1 : Mats),∃ (s : ByteArray),eqL [Value.agg q1,vs p.grade] [bD m_1,vs s] /\ FewR m_1 /\ T2 (True /\ pIf (decide (mP m_1 s)) (True /\ 4 <= 4 /\ T4 (T2 (True /\ pIf (decide (Grade4.dens (aX m_1 s) < 1000)) (T4 q2) (T4 (True /\ pIf (decide (Grade4.dens (aX m_1 s) > 20000)) (T2 q2) (T4 (pIf (decide (p.kind = 1)) (T2 (True /\ pIf (decide (p.thick >= 1)) (T4 (pIf (decide (p.thick <= 120)) (T4 (T2 (True /\ ∃ (m_2 : Mats),∃ (s : ByteArray),∃ (t : Int),eqL [Value.agg q1,vs p.grade,vi p.thick] [bD m_2,vs s,vi t] /\ FewR m_2 /\ pIf (decide (kW m_2 s t)) (T2 (True /\ Post (vb true))) (T2 q2)))) (T4 q2))) (T4 (T2 (Post (vb false)))))) (T2 (True /\ ∃ (m_2 : Mats),∃ (s : ByteArray),eqL [Value.agg q1,vs p.sect] [bD m_2,vs s] /\ FewM m_2 /\ T2 (True /\ pIf (decide (oV m_2 s)) (True /\ 4 <= 4 /\ T4 (T2 (pIf (decide (Sect4.area (bZ m_2 s) >= 1)) (T4 (True /\ pIf (decide (Sect4.area (bZ m_2 s) <= 1000000)) (T4 (True /\ pIf (decide (Sect4.height (bZ m_2 s) >= 1)) (T4 (True /\ pIf (decide (Sect4.height (bZ m_2 s) <= 2000)) (T2 (True /\ Post (vb true))) (T2 q2))) (T4 q2))) (T4 (T2 q2)))) (T8 q2)))) (True /\ 4 <= 4 /\ T8 (T4 (Post (vb false)))))))))))))) (True /\ 4 <= 4 /\ T8 q2))))))):=by kernel_rfl
def aLT : bH:=cT Tryz.prog [58] (aU [⟨54,aMP⟩,⟨55,aFy⟩,⟨56,aIL⟩,⟨57,wW⟩,⟨59,uU⟩] aI) 2
theorem aO2 (p : Part) (m : Mats) (H : HT) (Post : PV) : vcP Tryz.prog aLT 16 [] [dX p,bD m] H Post = (let q4:=T2 (True /\ Post (vi 0)); let q3:=[Value.agg #[vi p.at_.x,vi p.at_.y,vi p.at_.z,vi p.turn]]; let q2:=True /\ Post (vi 9); let q1:=#[vs p.id,vi p.rev,vi p.kind,vs p.node,vs p.grade,vi p.thick,aR p.outer,eX p.holes,vs p.sect,vi p.long,vi p.mass,vi p.centre.x,vi p.centre.y,vi p.centre.z,vi p.at_.x,vi p.at_.y,vi p.at_.z,vi p.turn]; T4 (True /\ ∃ (s : ByteArray),eqL [vs p.id] [vs s] /\ s.size < 16777000 /\ pIf (decide (nK s)) (T4 (∃ (s : ByteArray),eqL [vs p.node] [vs s] /\ s.size < 16777000 /\ pIf (decide (nK s)) (T4 (True /\ pIf (decide (p.rev < 1)) (T4 (Post (vi 9))) (T4 (pIf (decide (p.rev > 1000)) (T2 q2) (T4 (pIf (decide (p.kind < 1)) (T4 (Post (vi 10))) (T4 (pIf (decide (p.kind > 4)) (T2 (True /\ Post (vi 10))) (T2 (∃ (p_1 : Part),eqL [Value.agg q1] [dX p_1] /\ FitQ p_1 /\ (cB p_1.kind = 0 -> False) /\ pIf (decide (iD p_1)) (T2 (Post (vi 2))) (T2 (∃ (p_2 : Part),∃ (m_1 : Mats),eqL [Value.agg q1,bD m] [dX p_2,bD m_1] /\ FewR m_1 /\ (cB p_2.kind = 0 -> False) /\ pIf (decide (mR p_2 m_1)) (T4 (pIf (decide (p.kind = 1)) (T2 (∃ (o : List Pt),∃ (hs : List (List Pt)),eqL [Value.agg #[aR p.outer,eX p.holes]] [dA o hs] /\ aH o /\ aH hs /\ (∀ (h : List Pt),h ∈ hs -> aH h) /\ T2 (True /\ pIf (!decide (cA o hs = 0)) (T2 (True /\ Post (vi (cA o hs)))) (T2 (∃ (a : Vec3),∃ (k : Int),eqL q3 [fY a k] /\ pIf (decide (dW a k)) q4 (T2 q2)))))) (T2 (True /\ pIf (decide (p.kind = 4)) (T2 (True /\ pIf (decide (p.mass < 1)) (T4 (T2 (Post (vi 9)))) (T4 (pIf (decide (p.mass > 1099511627776)) (T4 q2) (T8 (True /\ pIf (decide (p.centre.x < -524288)) (T8 (T4 (T2 (Post (vi 9))))) (T4 (pIf (decide (p.centre.x > 524288)) (T8 (T4 q2)) (T4 (True /\ pIf (decide (p.centre.y < -524288)) (T8 (T2 q2)) (T4 (True /\ pIf (decide (p.centre.y > 524288)) (T8 q2) (T4 (True /\ pIf (decide (p.centre.z < -524288)) (T4 (T2 q2)) (T4 (True /\ pIf (decide (p.centre.z > 524288)) (T4 q2) (T4 (True /\ ∃ (a : Vec3),∃ (k : Int),eqL q3 [fY a k] /\ pIf (decide (dW a k)) q4 (T2 q2))))))))))))))))))) (T2 (True /\ pIf (decide (p.long < 1)) (T4 (Post (vi 9))) (T4 (pIf (decide (p.long > 32768)) (T2 q2) (T2 (True /\ ∃ (a : Vec3),∃ (k : Int),eqL q3 [fY a k] /\ pIf (decide (dW a k)) q4 (T2 q2))))))))))) (T2 (True /\ Post (vi 23))))))))))))))) (T4 (Post (vi 6))))) (T4 (True /\ Post (vi 6))))):=by kernel_rfl
def aMD : bH:=aU [⟨16,wQ⟩,⟨65,uP⟩,⟨66,sS⟩,⟨67,aBp⟩] aI
theorem aKy (p : Part) (m : Mats) (H : HT) (Post : PV) : vcP Tryz.prog aMD 19 [] [dX p,bD m] H Post = (let q7:=decide (p.kind = 4); let q6:=decide (p.kind = 1); let q5:=toI (vi 1000000) = 0 -> False; let q4:=toI (vi 2000000) = 0 -> False; let q3:=[Value.agg #[aR p.outer,eX p.holes]]; let q2:=T4 (True /\ (T2 (True)) /\ Post (Value.tuple #[vi p.mass,vi 0])); let q1:=(dO m).toArray; T4 (T2 (∃ (p_1 : Part),∃ (m_1 : Mats),eqL [Value.agg #[vs p.id,vi p.rev,vi p.kind,vs p.node,vs p.grade,vi p.thick,aR p.outer,eX p.holes,vs p.sect,vi p.long,vi p.mass,vi p.centre.x,vi p.centre.y,vi p.centre.z,vi p.at_.x,vi p.at_.y,vi p.at_.z,vi p.turn],Value.agg q1] [dX p_1,bD m_1] /\ FitR p_1 /\ FewR m_1 /\ T2 (True /\ pIf (!decide (bF p_1 m_1 = 0)) (T2 (True /\ (T2 (True)) /\ Post (Value.tuple #[vi 0,vi (bF p_1 m_1)]))) (T2 (True /\ ∃ (m_2 : Mats),∃ (s : ByteArray),eqL [Value.agg q1,vs p.grade] [bD m_2,vs s] /\ FewR m_2 /\ T2 (True /\ pIf (decide (mP m_2 s)) (True /\ 4 <= 4 /\ T4 (∃ (m_3 : Mats),∃ (s_1 : ByteArray),eqL [Value.agg q1,vs p.sect] [bD m_3,vs s_1] /\ FewM m_3 /\ T2 (True /\ pIf (decide (oV m_3 s_1)) (True /\ 4 <= 4 /\ T4 (pIf q6 (T4 (T2 (True /\ ∃ (o : List Pt),∃ (hs : List (List Pt)),eqL q3 [dA o hs] /\ aH o /\ aH hs /\ (∀ (h : List Pt),h ∈ hs -> aH h) /\ T2 (True /\ q4 /\ T2 ((T2 (True)) /\ Post (Value.tuple #[vi (wrap i64 (Int.tdiv (wrap i64 (wrap i64 (rArea o hs * p.thick) * Grade4.dens (aX m_2 s))) 2000000)),vi 0])))))) (T2 (pIf q7 q2 (T8 (True /\ q5 /\ T2 ((T2 (True)) /\ Post (Value.tuple #[vi (wrap i64 (Int.tdiv (wrap i64 (wrap i64 (Sect4.area (bZ m_3 s_1) * p.long) * Grade4.dens (aX m_2 s))) 1000000)),vi 0])))))))) (True /\ 4 <= 4 /\ T4 (pIf q6 (T4 (T2 (True /\ ∃ (o : List Pt),∃ (hs : List (List Pt)),eqL q3 [dA o hs] /\ aH o /\ aH hs /\ (∀ (h : List Pt),h ∈ hs -> aH h) /\ T2 (True /\ q4 /\ T2 ((T2 (True)) /\ Post (Value.tuple #[vi (wrap i64 (Int.tdiv (wrap i64 (wrap i64 (rArea o hs * p.thick) * Grade4.dens (aX m_2 s))) 2000000)),vi 0])))))) (T2 (pIf q7 q2 (T8 (True /\ q5 /\ T2 ((T2 (True)) /\ Post (Value.tuple #[vi (wrap i64 (Int.tdiv (wrap i64 (wrap i64 (Sect4.area (bZ m_3 s_1) * p.long) * Grade4.dens (aX m_2 s))) 1000000)),vi 0]))))))))))) (True /\ 4 <= 4 /\ T4 (∃ (m_3 : Mats),∃ (s_1 : ByteArray),eqL [Value.agg q1,vs p.sect] [bD m_3,vs s_1] /\ FewM m_3 /\ T2 (True /\ pIf (decide (oV m_3 s_1)) (True /\ 4 <= 4 /\ T4 (pIf q6 (T4 (T2 (True /\ ∃ (o : List Pt),∃ (hs : List (List Pt)),eqL q3 [dA o hs] /\ aH o /\ aH hs /\ (∀ (h : List Pt),h ∈ hs -> aH h) /\ T2 (True /\ q4 /\ T2 ((T2 (True)) /\ Post (Value.tuple #[vi (wrap i64 (Int.tdiv (wrap i64 (wrap i64 (rArea o hs * p.thick) * Grade4.dens (aX m_2 s))) 2000000)),vi 0])))))) (T2 (pIf q7 q2 (T8 (True /\ q5 /\ T2 ((T2 (True)) /\ Post (Value.tuple #[vi (wrap i64 (Int.tdiv (wrap i64 (wrap i64 (Sect4.area (bZ m_3 s_1) * p.long) * Grade4.dens (aX m_2 s))) 1000000)),vi 0])))))))) (True /\ 4 <= 4 /\ T4 (pIf q6 (T4 (T2 (True /\ ∃ (o : List Pt),∃ (hs : List (List Pt)),eqL q3 [dA o hs] /\ aH o /\ aH hs /\ (∀ (h : List Pt),h ∈ hs -> aH h) /\ T2 (True /\ q4 /\ T2 ((T2 (True)) /\ Post (Value.tuple #[vi (wrap i64 (Int.tdiv (wrap i64 (wrap i64 (rArea o hs * p.thick) * Grade4.dens (aX m_2 s))) 2000000)),vi 0])))))) (T2 (pIf q7 q2 (T8 (True /\ q5 /\ T2 ((T2 (True)) /\ Post (Value.tuple #[vi (wrap i64 (Int.tdiv (wrap i64 (wrap i64 (Sect4.area (bZ m_3 s_1) * p.long) * Grade4.dens (aX m_2 s))) 1000000)),vi 0])))))))))))))))))):=by kernel_rfl
end Go.Proofs.YtngginofamlkkaaGreatDoor
