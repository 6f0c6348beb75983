/-
  Put together out of several texts, each in its own namespace's block. Conditions: as each theorem states them.
-/
import Derived.Test.YtojlhapbngcjkaaGreatDoorQSgb
noncomputable section
namespace Go.Proofs.YtojlhapbngcjkaaGreatDoor
open Go Go.RowKit Go.ChangeShapes Go.WideShapes Go.ChangeAt Go.Deep Go.Joins
set_option maxRecDepth 100000
structure Grade4 where
 name : ByteArray
 dens : Int
 yld : Int
 gauges : List Int
 deriving DecidableEq
structure Sect4 where
 name : ByteArray
 area : Int
 height : Int
 stock : Int
 deriving DecidableEq
structure Mats where
 grades : List Grade4
 sects : List Sect4
 deriving DecidableEq
instance : Enc Grade4 where
 sz := 4
 cells p := [.string p.name, .int .i64 p.dens, .int .i64 p.yld, tree 1 p.gauges.length (encL p.gauges)]
 len _ := rfl
 nl p := by intro v hv; simp at hv; rcases hv with rfl | rfl | rfl | rfl <;> rfl
instance : Enc Sect4 where
 sz := 4
 cells p := [.string p.name, .int .i64 p.area, .int .i64 p.height, .int .i64 p.stock]
 len _ := rfl
 nl p := by intro v hv; simp at hv; rcases hv with rfl | rfl | rfl | rfl <;> rfl
def matsC (m : Mats) : List Value := [tree 4 m.grades.length (encL m.grades), tree 4 m.sects.length (encL m.sects)]
instance : Enc Mats where
 sz := 2
 cells := matsC
 len _ := rfl
 nl p := by intro v hv; simp [matsC] at hv; rcases hv with rfl | rfl <;> rfl
variable {w : World}
end Go.Proofs.YtojlhapbngcjkaaGreatDoor

noncomputable section
namespace Go.Proofs.YtojlhapbngcjkaaGreatDoor
open Go Go.RowKit
set_option maxRecDepth 100000
set_option maxHeartbeats 8000000
structure Bevel6 where
 kind : Int
 from_ : Int
 until_ : Int
 gap : Int
 face : Int
 run : Int
def bevel6C (p : Bevel6) : List Value := [.int .i64 p.kind, .int .i64 p.from_, .int .i64 p.until_, .int .i64 p.gap, .int .i64 p.face, .int .i64 p.run]
instance : Enc Bevel6 where
 sz := 6
 cells := bevel6C
 len _ := rfl
 nl p := fun v hv => List.all_eq_true.1 (show (bevel6C p).all nl1 = true from rfl) v hv
structure Proc6 where
 name : ByteArray
 kind : Int
 from_ : Int
 until_ : Int
 grades : List ByteArray
 speed : Int
def proc6C (p : Proc6) : List Value := [.string p.name, .int .i64 p.kind, .int .i64 p.from_, .int .i64 p.until_, tree 1 p.grades.length (encL p.grades), .int .i64 p.speed]
instance : Enc Proc6 where
 sz := 6
 cells := proc6C
 len _ := rfl
 nl p := fun v hv => List.all_eq_true.1 (show (proc6C p).all nl1 = true from rfl) v hv
structure Skill3 where
 proc : ByteArray
 from_ : Int
 until_ : Int
def skill3C (p : Skill3) : List Value := [.string p.proc, .int .i64 p.from_, .int .i64 p.until_]
instance : Enc Skill3 where
 sz := 3
 cells := skill3C
 len _ := rfl
 nl p := fun v hv => List.all_eq_true.1 (show (skill3C p).all nl1 = true from rfl) v hv
structure Welder2 where
 name : ByteArray
 skills : List Skill3
def welder2C (p : Welder2) : List Value := [.string p.name, tree 3 p.skills.length (encL p.skills)]
instance : Enc Welder2 where
 sz := 2
 cells := welder2C
 len _ := rfl
 nl p := fun v hv => List.all_eq_true.1 (show (welder2C p).all nl1 = true from rfl) v hv
structure Rating2 where
 radius : Int
 load : Int
def rating2C (p : Rating2) : List Value := [.int .i64 p.radius, .int .i64 p.load]
instance : Enc Rating2 where
 sz := 2
 cells := rating2C
 len _ := rfl
 nl p := fun v hv => List.all_eq_true.1 (show (rating2C p).all nl1 = true from rfl) v hv
structure Crane2 where
 name : ByteArray
 chart : List Rating2
def crane2C (p : Crane2) : List Value := [.string p.name, tree 2 p.chart.length (encL p.chart)]
instance : Enc Crane2 where
 sz := 2
 cells := crane2C
 len _ := rfl
 nl p := fun v hv => List.all_eq_true.1 (show (crane2C p).all nl1 = true from rfl) v hv
structure Form3 where
 x : List Int
 z : List Int
 half : List (List Int)
def form3C (p : Form3) : List Value := [tree 1 p.x.length (encL p.x), tree 1 p.z.length (encL p.z), tree 1 p.half.length (encL p.half)]
instance : Enc Form3 where
 sz := 3
 cells := form3C
 len _ := rfl
 nl p := fun v hv => List.all_eq_true.1 (show (form3C p).all nl1 = true from rfl) v hv
structure Lim3 where
 depth : Int
 height : Int
 trim : Int
def lim3C (p : Lim3) : List Value := [.int .i64 p.depth, .int .i64 p.height, .int .i64 p.trim]
instance : Enc Lim3 where
 sz := 3
 cells := lim3C
 len _ := rfl
 nl p := fun v hv => List.all_eq_true.1 (show (lim3C p).all nl1 = true from rfl) v hv
structure Stock2 where
 sheets : List Sheet6
 bars : List Bar5
def stock2C (p : Stock2) : List Value := [tree 6 p.sheets.length (encL p.sheets), tree 5 p.bars.length (encL p.bars)]
instance : Enc Stock2 where
 sz := 2
 cells := stock2C
 len _ := rfl
 nl p := fun v hv => List.all_eq_true.1 (show (stock2C p).all nl1 = true from rfl) v hv
structure Piece6 where
 part : ByteArray
 rev : Int
 from_ : ByteArray
 heat : ByteArray
 state : Int
 at_ : Int
def piece6C (p : Piece6) : List Value := [.string p.part, .int .i64 p.rev, .string p.from_, .string p.heat, .int .i64 p.state, .int .i64 p.at_]
abbrev piece6V (p : Piece6) : Value := .agg (piece6C p).toArray
instance : Enc Piece6 where
 sz := 6
 cells := piece6C
 len _ := rfl
 nl p := fun v hv => List.all_eq_true.1 (show (piece6C p).all nl1 = true from rfl) v hv
structure Weld8 where
 seam : ByteArray
 state : Int
 cls : Int
 proc : ByteArray
 by_ : ByteArray
 at_ : Int
 repairs : Int
 passed : List Int
def weld8C (p : Weld8) : List Value := [.string p.seam, .int .i64 p.state, .int .i64 p.cls, .string p.proc, .string p.by_, .int .i64 p.at_, .int .i64 p.repairs, tree 1 p.passed.length (encL p.passed)]
abbrev weld8V (p : Weld8) : Value := .agg (weld8C p).toArray
instance : Enc Weld8 where
 sz := 8
 cells := weld8C
 len _ := rfl
 nl p := fun v hv => List.all_eq_true.1 (show (weld8C p).all nl1 = true from rfl) v hv
structure Raised3 where
 block : ByteArray
 at_ : Int
 hooks : List Hook4
def raised3C (p : Raised3) : List Value := [.string p.block, .int .i64 p.at_, tree 4 p.hooks.length (encL p.hooks)]
instance : Enc Raised3 where
 sz := 3
 cells := raised3C
 len _ := rfl
 nl p := fun v hv => List.all_eq_true.1 (show (raised3C p).all nl1 = true from rfl) v hv
structure Test3 where
 id : ByteArray
 after : List ByteArray
 done : Bool
def test3C (p : Test3) : List Value := [.string p.id, tree 1 p.after.length (encL p.after), .bool p.done]
instance : Enc Test3 where
 sz := 3
 cells := test3C
 len _ := rfl
 nl p := fun v hv => List.all_eq_true.1 (show (test3C p).all nl1 = true from rfl) v hv
structure SetupD where
 mats : Mats
 bevels : List Bevel6
 procs : List Proc6
 welders : List Welder2
 cranes : List Crane2
 form : Form3
 water : Int
 limits : Lim3
 tests : List Test3
 design : Design6
def setupDC (p : SetupD) : List Value := [tree 4 p.mats.grades.length (encL p.mats.grades), tree 4 p.mats.sects.length (encL p.mats.sects), tree 6 p.bevels.length (encL p.bevels), tree 6 p.procs.length (encL p.procs), tree 2 p.welders.length (encL p.welders), tree 2 p.cranes.length (encL p.cranes), tree 1 p.form.x.length (encL p.form.x), tree 1 p.form.z.length (encL p.form.z), tree 1 p.form.half.length (encL p.form.half), .int .i64 p.water, .int .i64 p.limits.depth, .int .i64 p.limits.height, .int .i64 p.limits.trim, tree 3 p.tests.length (encL p.tests), .string p.design.hull, tree 3 p.design.nodes.length (encL p.design.nodes), tree 18 p.design.parts.length (encL p.design.parts), tree 6 p.design.seams.length (encL p.design.seams), tree 5 p.design.packs.length (encL p.design.packs), tree 3 p.design.needs.length (encL p.design.needs)]
abbrev setupDV (p : SetupD) : Value := .agg (setupDC p).toArray
instance : Enc SetupD where
 sz := 20
 cells := setupDC
 len _ := rfl
 nl p := fun v hv => List.all_eq_true.1 (show (setupDC p).all nl1 = true from rfl) v hv
structure StateD where
 now : Int
 design : Design6
 orders : List ByteArray
 stock : Stock2
 pieces : List Piece6
 scrap : List Piece6
 welds : List Weld8
 done : List ByteArray
 weighs : List Weig
 raised : List Raised3
 permits : List Permit3
 tests : List Test3
 launched : Int
 delivered : Int
def stateDC (p : StateD) : List Value := [.int .i64 p.now, .string p.design.hull, tree 3 p.design.nodes.length (encL p.design.nodes), tree 18 p.design.parts.length (encL p.design.parts), tree 6 p.design.seams.length (encL p.design.seams), tree 5 p.design.packs.length (encL p.design.packs), tree 3 p.design.needs.length (encL p.design.needs), tree 1 p.orders.length (encL p.orders), tree 6 p.stock.sheets.length (encL p.stock.sheets), tree 5 p.stock.bars.length (encL p.stock.bars), tree 6 p.pieces.length (encL p.pieces), tree 6 p.scrap.length (encL p.scrap), tree 8 p.welds.length (encL p.welds), tree 1 p.done.length (encL p.done), tree 8 p.weighs.length (encL p.weighs), tree 3 p.raised.length (encL p.raised), tree 4 p.permits.length (encL p.permits), tree 3 p.tests.length (encL p.tests), .int .i64 p.launched, .int .i64 p.delivered]
abbrev stateDV (p : StateD) : Value := .agg (stateDC p).toArray
instance : Enc StateD where
 sz := 20
 cells := stateDC
 len _ := rfl
 nl p := fun v hv => List.all_eq_true.1 (show (stateDC p).all nl1 = true from rfl) v hv
theorem ba_eq {a b : ByteArray} (h : a.data.toList = b.data.toList) : a = b := by
 obtain ⟨a⟩ := a
 obtain ⟨b⟩ := b
 congr 1
 exact Array.toList_inj.1 h
theorem ba_app (a b : ByteArray) : (a ++ b).data.toList = a.data.toList ++ b.data.toList := by simp [ByteArray.data_append]
theorem ba_assoc (a b c : ByteArray) : a ++ b ++ c = a ++ (b ++ c) := ba_eq (by simp only [ba_app, List.append_assoc])
theorem joinB_toList (a : ByteArray) (l : List ByteArray) (s : ByteArray) : (joinB (a :: l) s).data.toList = a.data.toList ++ (l.map fun x => s.data.toList ++ x.data.toList).flatten := by
 unfold joinB
 rw [List.map_cons, Lib.join_cons]
 unfold Lib.joinTail
 rw [List.map_map]
 rfl
theorem joinB_one (a s : ByteArray) : joinB [a] s = a := ba_eq (by rw [joinB_toList]; simp)
def tailB (s : ByteArray) (t : ByteArray) (l : List ByteArray) : ByteArray := l.foldl (fun t x => t ++ (s ++ x)) t
theorem tailB_list (s : ByteArray) : ∀ (l : List ByteArray) (t : ByteArray), (tailB s t l).data.toList = t.data.toList ++ (l.map fun x => s.data.toList ++ x.data.toList).flatten
 | [], t => by simp [tailB]
 | x :: l, t => by
  have := tailB_list s l (t ++ (s ++ x))
  unfold tailB at this ⊢
  rw [List.foldl_cons, this, ba_app, ba_app, List.map_cons, List.flatten_cons, List.append_assoc, List.append_assoc]
theorem joinB_tail (a : ByteArray) (l m : List ByteArray) (s : ByteArray) : joinB (a :: l ++ m) s = tailB s (joinB (a :: l) s) m := by
 apply ba_eq
 rw [List.cons_append, joinB_toList, tailB_list, joinB_toList, List.map_append, List.flatten_append, List.append_assoc]
theorem tailB_size {s : ByteArray} {c : Nat} : ∀ {l : List ByteArray} {t : ByteArray}, (∀ x ∈ l, x.size ≤ c) → (tailB s t l).size ≤ t.size + l.length * (s.size + c)
 | [], t, _ => by simp [tailB]
 | x :: l, t, h => by
  have h1 := tailB_size (s := s) (c := c) (l := l) (t := t ++ (s ++ x)) fun y hy => h y (by simp [hy])
  have h2 := h x (by simp)
  unfold tailB at h1 ⊢
  rw [ByteArray.size_append, ByteArray.size_append] at h1
  rw [List.foldl_cons, List.length_cons, Nat.add_mul, Nat.one_mul]
  omega
theorem foldB_size {α : Type} {f : α → ByteArray} {c : Nat} : ∀ {l : List α} {t : ByteArray}, (∀ x ∈ l, (f x).size ≤ c) → (l.foldl (fun t x => t ++ f x) t).size ≤ t.size + l.length * c
 | [], t, _ => by simp
 | x :: l, t, h => by
  have h1 := foldB_size (f := f) (c := c) (l := l) (t := t ++ f x) fun y hy => h y (by simp [hy])
  have h2 := h x (by simp)
  rw [ByteArray.size_append] at h1
  rw [List.foldl_cons, List.length_cons, Nat.add_mul, Nat.one_mul]
  omega
theorem foldB_pos {α : Type} {f : α → ByteArray} : ∀ {l : List α} {t : ByteArray}, t.size ≤ (l.foldl (fun t x => t ++ f x) t).size
 | [], t => Nat.le_refl _
 | x :: l, t => by
  have h1 := foldB_pos (f := f) (l := l) (t := t ++ f x)
  rw [ByteArray.size_append] at h1
  rw [List.foldl_cons]
  omega
abbrev spB : ByteArray := ⟨#[32]⟩
def piece0 : Piece6 := ⟨⟨#[]⟩, 0, ⟨#[]⟩, ⟨#[]⟩, 0, 0⟩
def pieceAt (s : StateD) (id : ByteArray) : Option Piece6 := s.pieces.find? fun x => decide (x.part = id)
def weldAt (s : StateD) (id : ByteArray) : Option Weld8 := s.welds.find? fun x => decide (x.seam = id)
def shownB (b : ByteArray) : ByteArray := if b = ⟨#[]⟩ then ⟨#[45]⟩ else b
def howP (n : Int) : ByteArray := if n = 1 then ⟨#[99, 117, 116]⟩ else if n = 2 then ⟨#[102, 105, 116, 116, 101, 100]⟩ else ⟨#[117, 110, 107, 110, 111, 119, 110]⟩
def howW (n : Int) : ByteArray := if n = 2 then ⟨#[119, 101, 108, 100, 101, 100]⟩ else if n = 3 then ⟨#[102, 97, 105, 108, 101, 100]⟩ else if n = 4 then ⟨#[97, 99, 99, 101, 112, 116, 101, 100]⟩ else if n = 5 then ⟨#[114, 101, 106, 101, 99, 116, 101, 100]⟩ else ⟨#[117, 110, 107, 110, 111, 119, 110]⟩
def matL (s : StateD) (p : Part) : ByteArray := match pieceAt s p.id with
 | none => p.id ++ (⟨#[32, 114, 101, 118, 32]⟩ ++ (decB p.rev ++ ⟨#[32, 109, 105, 115, 115, 105, 110, 103, 10]⟩))
 | some x => p.id ++ (⟨#[32, 114, 101, 118, 32]⟩ ++ (decB p.rev ++ (⟨#[32, 102, 114, 111, 109, 32]⟩ ++ (shownB x.from_ ++ (⟨#[32, 104, 101, 97, 116, 32]⟩ ++ (shownB x.heat ++ (⟨#[32]⟩ ++ (howP x.state ++ ⟨#[10]⟩))))))))
def matB (s : StateD) (i : Nat) : ByteArray := (s.design.parts.take i).foldl (fun t p => t ++ matL s p) (⟨#[77, 65, 84, 69, 82, 73, 65, 76, 83, 32]⟩ ++ (s.design.hull ++ ⟨#[10]⟩))
def seamH (m : Seam6) : ByteArray := m.id ++ (⟨#[32, 99, 108, 97, 115, 115, 32]⟩ ++ decB m.cls)
def passH (m : Seam6) (w : Weld8) : ByteArray := seamH m ++ (⟨#[32]⟩ ++ (howW w.state ++ (⟨#[32, 98, 121, 32]⟩ ++ (w.by_ ++ (⟨#[32, 119, 105, 116, 104, 32]⟩ ++ (w.proc ++ (⟨#[32, 97, 116, 32]⟩ ++ (decB w.at_ ++ (⟨#[32, 114, 101, 112, 97, 105, 114, 115, 32]⟩ ++ (decB w.repairs ++ ⟨#[32, 112, 97, 115, 115, 101, 100]⟩))))))))))
def weldL (s : StateD) (m : Seam6) : ByteArray := match weldAt s m.id with
 | none => seamH m ++ ⟨#[32, 110, 111, 110, 101, 10]⟩
 | some w => if w.state = 1 then seamH m ++ ⟨#[32, 111, 112, 101, 110, 10]⟩ else tailB spB (passH m w) (w.passed.map decB) ++ ⟨#[10]⟩
def weldB (s : StateD) (i : Nat) : ByteArray := (s.design.seams.take i).foldl (fun t m => t ++ weldL s m) (⟨#[87, 69, 76, 68, 83, 32]⟩ ++ (s.design.hull ++ ⟨#[10]⟩))
def stg {α : Type} (p : α → Prop) [DecidablePred p] (f : α → ByteArray) (l : List α) : List ByteArray := (l.filter fun a => decide (p a)).map f
def blocksOf (d : Design6) : List ByteArray := stg (fun n : Node3 => n.kind = 1) (·.id) d.nodes
def notUp (s : StateD) (b : ByteArray) : Prop := ¬ ∃ r ∈ s.raised, r.block = b
def notFit (s : StateD) (p : Part) : Prop := ∀ x, pieceAt s p.id = some x → x.state ≠ 2
def notAcc (s : StateD) (m : Seam6) : Prop := ∀ w, weldAt s m.id = some w → w.state ≠ 4
def notDone (s : StateD) (k : Pack5) : Prop := k.id ∉ s.done
def notPass (t : Test3) : Prop := t.done = false
instance (s : StateD) : DecidablePred (notUp s) := fun _ => Classical.propDecidable _
instance (s : StateD) : DecidablePred (notFit s) := fun _ => Classical.propDecidable _
instance (s : StateD) : DecidablePred (notAcc s) := fun _ => Classical.propDecidable _
instance (s : StateD) : DecidablePred (notDone s) := fun _ => Classical.propDecidable _
instance : DecidablePred notPass := fun _ => Classical.propDecidable _
def ptB (b : ByteArray) : ByteArray := ⟨#[98, 108, 111, 99, 107, 32]⟩ ++ (b ++ ⟨#[32, 105, 115, 32, 110, 111, 116, 32, 101, 114, 101, 99, 116, 101, 100]⟩)
def ptP (p : Part) : ByteArray := ⟨#[112, 97, 114, 116, 32]⟩ ++ (p.id ++ ⟨#[32, 105, 115, 32, 110, 111, 116, 32, 97, 115, 115, 101, 109, 98, 108, 101, 100]⟩)
def ptS (m : Seam6) : ByteArray := ⟨#[115, 101, 97, 109, 32]⟩ ++ (m.id ++ ⟨#[32, 105, 115, 32, 110, 111, 116, 32, 97, 99, 99, 101, 112, 116, 101, 100]⟩)
def ptK (k : Pack5) : ByteArray := ⟨#[112, 97, 99, 107, 97, 103, 101, 32]⟩ ++ (k.id ++ ⟨#[32, 105, 115, 32, 110, 111, 116, 32, 100, 111, 110, 101]⟩)
def ptT (t : Test3) : ByteArray := ⟨#[116, 101, 115, 116, 32]⟩ ++ (t.id ++ ⟨#[32, 105, 115, 32, 110, 111, 116, 32, 112, 97, 115, 115, 101, 100]⟩)
def openL (s : StateD) : List ByteArray := stg (notUp s) ptB (blocksOf s.design) ++ (stg (notFit s) ptP s.design.parts ++ (stg (notAcc s) ptS s.design.seams ++ (stg (notDone s) ptK s.design.packs ++ (stg notPass ptT s.tests ++ if s.launched = -1 then [⟨#[104, 117, 108, 108, 32, 105, 115, 32, 110, 111, 116, 32, 108, 97, 117, 110, 99, 104, 101, 100]⟩] else []))))
structure FitS (s : StateD) : Prop where
 hull : s.design.hull.size ≤ 1048576
 nodes : s.design.nodes.length ≤ 1048576 ∧ ∀ x ∈ s.design.nodes, x.id.size ≤ 1048576
 parts : s.design.parts.length ≤ 1048576 ∧ ∀ x ∈ s.design.parts, x.id.size ≤ 1048576 ∧ In64 x.rev
 seams : s.design.seams.length ≤ 1048576 ∧ ∀ x ∈ s.design.seams, x.id.size ≤ 1048576 ∧ In64 x.cls
 packs : s.design.packs.length ≤ 1048576 ∧ ∀ x ∈ s.design.packs, x.id.size ≤ 1048576
 pieces : s.pieces.length ≤ 1048576 ∧ ∀ x ∈ s.pieces, x.from_.size ≤ 1048576 ∧ x.heat.size ≤ 1048576
 welds : s.welds.length ≤ 1048576 ∧ ∀ x ∈ s.welds, x.by_.size ≤ 1048576 ∧ x.proc.size ≤ 1048576 ∧ In64 x.at_ ∧ In64 x.repairs ∧ x.passed.length ≤ 1048576 ∧ ∀ n ∈ x.passed, In64 n
 raised : s.raised.length ≤ 1048576
 done : s.done.length ≤ 1048576
 tests : s.tests.length ≤ 1048576 ∧ ∀ x ∈ s.tests, x.id.size ≤ 1048576
theorem pieceAt_mem {s : StateD} {id : ByteArray} {x : Piece6} (h : pieceAt s id = some x) : x ∈ s.pieces := List.mem_of_find?_eq_some h
theorem weldAt_mem {s : StateD} {id : ByteArray} {x : Weld8} (h : weldAt s id = some x) : x ∈ s.welds := List.mem_of_find?_eq_some h
theorem shownB_size (b : ByteArray) : (shownB b).size ≤ b.size + 1 := by
 unfold shownB
 split
 ·show 1 ≤ _
  omega
 ·omega
theorem howP_size (n : Int) : (howP n).size ≤ 7 := by
 unfold howP
 repeat' split
 all_goals decide
theorem howW_size (n : Int) : (howW n).size ≤ 8 := by
 unfold howW
 repeat' split
 all_goals decide
theorem matL_size {s : StateD} (h : FitS s) {p : Part} (hp : p ∈ s.design.parts) : (matL s p).size ≤ 4000000 := by
 obtain ⟨h1, h2⟩ := h.parts.2 p hp
 have h3 := decB_size h2
 unfold matL
 split
 ·simp only [ByteArray.size_append]
  have e1 : (⟨#[32, 114, 101, 118, 32]⟩ : ByteArray).size = 5 := rfl
  have e2 : (⟨#[32, 109, 105, 115, 115, 105, 110, 103, 10]⟩ : ByteArray).size = 9 := rfl
  omega
 ·rename_i x hx
  obtain ⟨g1, g2⟩ := h.pieces.2 x (pieceAt_mem hx)
  have g3 := shownB_size x.from_
  have g4 := shownB_size x.heat
  have g5 := howP_size x.state
  simp only [ByteArray.size_append]
  have e1 : (⟨#[32, 114, 101, 118, 32]⟩ : ByteArray).size = 5 := rfl
  have e2 : (⟨#[32, 102, 114, 111, 109, 32]⟩ : ByteArray).size = 6 := rfl
  have e3 : (⟨#[32, 104, 101, 97, 116, 32]⟩ : ByteArray).size = 6 := rfl
  have e4 : (⟨#[32]⟩ : ByteArray).size = 1 := rfl
  have e5 : (⟨#[10]⟩ : ByteArray).size = 1 := rfl
  omega
theorem matB_size {s : StateD} (h : FitS s) (i : Nat) : (matB s i).size ≤ 4194304000000 + 2000000 := by
 have h1 := foldB_size (f := matL s) (c := 4000000) (l := s.design.parts.take i) (t := ⟨#[77, 65, 84, 69, 82, 73, 65, 76, 83, 32]⟩ ++ (s.design.hull ++ ⟨#[10]⟩)) fun x hx => matL_size h (List.mem_of_mem_take hx)
 have h2 := h.parts.1
 have h3 : (s.design.parts.take i).length ≤ s.design.parts.length := List.length_take_le' _ _
 have h4 := h.hull
 have h5 := Nat.mul_le_mul (Nat.le_trans h3 h2) (Nat.le_refl 4000000)
 simp only [ByteArray.size_append] at h1
 have e1 : (⟨#[77, 65, 84, 69, 82, 73, 65, 76, 83, 32]⟩ : ByteArray).size = 10 := rfl
 have e2 : (⟨#[10]⟩ : ByteArray).size = 1 := rfl
 unfold matB
 omega
theorem passH_size {s : StateD} (h : FitS s) {m : Seam6} (hm : m ∈ s.design.seams) {w : Weld8} (hw : w ∈ s.welds) : (passH m w).size ≤ 4000000 := by
 obtain ⟨h1, h2⟩ := h.seams.2 m hm
 obtain ⟨g1, g2, g3, g4, g5, g6⟩ := h.welds.2 w hw
 have a1 := decB_size h2
 have a2 := decB_size g3
 have a3 := decB_size g4
 have a4 := howW_size w.state
 unfold passH seamH
 simp only [ByteArray.size_append]
 have e1 : (⟨#[32, 99, 108, 97, 115, 115, 32]⟩ : ByteArray).size = 7 := rfl
 have e2 : (⟨#[32]⟩ : ByteArray).size = 1 := rfl
 have e3 : (⟨#[32, 98, 121, 32]⟩ : ByteArray).size = 4 := rfl
 have e4 : (⟨#[32, 119, 105, 116, 104, 32]⟩ : ByteArray).size = 6 := rfl
 have e5 : (⟨#[32, 97, 116, 32]⟩ : ByteArray).size = 4 := rfl
 have e6 : (⟨#[32, 114, 101, 112, 97, 105, 114, 115, 32]⟩ : ByteArray).size = 9 := rfl
 have e7 : (⟨#[32, 112, 97, 115, 115, 101, 100]⟩ : ByteArray).size = 7 := rfl
 omega
theorem pass_size {s : StateD} (h : FitS s) {w : Weld8} (hw : w ∈ s.welds) (t : ByteArray) (k : Nat) : (tailB spB t ((w.passed.map decB).take k)).size ≤ t.size + 25000000 := by
 obtain ⟨g1, g2, g3, g4, g5, g6⟩ := h.welds.2 w hw
 have h1 := tailB_size (s := spB) (c := 21) (l := (w.passed.map decB).take k) (t := t) fun x hx => by
  obtain ⟨n, hn, rfl⟩ := List.mem_map.1 (List.mem_of_mem_take hx)
  exact decB_size (g6 n hn)
 have h2 : ((w.passed.map decB).take k).length ≤ 1048576 := by
  have := List.length_take_le' k (w.passed.map decB)
  rw [List.length_map] at this
  omega
 have e : spB.size = 1 := rfl
 rw [e] at h1
 have := Nat.mul_le_mul h2 (Nat.le_refl (1 + 21))
 omega
theorem weldL_size {s : StateD} (h : FitS s) {m : Seam6} (hm : m ∈ s.design.seams) : (weldL s m).size ≤ 30000000 := by
 obtain ⟨h1, h2⟩ := h.seams.2 m hm
 have a1 := decB_size h2
 have e1 : (⟨#[32, 99, 108, 97, 115, 115, 32]⟩ : ByteArray).size = 7 := rfl
 have e2 : (⟨#[32, 110, 111, 110, 101, 10]⟩ : ByteArray).size = 6 := rfl
 have e3 : (⟨#[32, 111, 112, 101, 110, 10]⟩ : ByteArray).size = 6 := rfl
 have e4 : (⟨#[10]⟩ : ByteArray).size = 1 := rfl
 unfold weldL
 split
 ·unfold seamH
  simp only [ByteArray.size_append]
  omega
 ·rename_i w hw
  split
  ·unfold seamH
   simp only [ByteArray.size_append]
   omega
  ·have h3 := passH_size h hm (weldAt_mem hw)
   have h4 := pass_size h (weldAt_mem hw) (passH m w) (w.passed.map decB).length
   rw [List.take_length] at h4
   simp only [ByteArray.size_append]
   omega
theorem weldB_size {s : StateD} (h : FitS s) (i : Nat) : (weldB s i).size ≤ 31457280000000 + 2000000 := by
 have h1 := foldB_size (f := weldL s) (c := 30000000) (l := s.design.seams.take i) (t := ⟨#[87, 69, 76, 68, 83, 32]⟩ ++ (s.design.hull ++ ⟨#[10]⟩)) fun x hx => weldL_size h (List.mem_of_mem_take hx)
 have h2 := h.seams.1
 have h3 : (s.design.seams.take i).length ≤ s.design.seams.length := List.length_take_le' _ _
 have h4 := h.hull
 have h5 := Nat.mul_le_mul (Nat.le_trans h3 h2) (Nat.le_refl 30000000)
 simp only [ByteArray.size_append] at h1
 have e1 : (⟨#[87, 69, 76, 68, 83, 32]⟩ : ByteArray).size = 6 := rfl
 have e2 : (⟨#[10]⟩ : ByteArray).size = 1 := rfl
 unfold weldB
 omega
theorem matB_pos (s : StateD) (i : Nat) : 0 < (matB s i).size := by
 have h1 := foldB_pos (f := matL s) (l := s.design.parts.take i) (t := ⟨#[77, 65, 84, 69, 82, 73, 65, 76, 83, 32]⟩ ++ (s.design.hull ++ ⟨#[10]⟩))
 have e1 : (⟨#[77, 65, 84, 69, 82, 73, 65, 76, 83, 32]⟩ : ByteArray).size = 10 := rfl
 simp only [ByteArray.size_append] at h1
 unfold matB
 omega
theorem weldB_pos (s : StateD) (i : Nat) : 0 < (weldB s i).size := by
 have h1 := foldB_pos (f := weldL s) (l := s.design.seams.take i) (t := ⟨#[87, 69, 76, 68, 83, 32]⟩ ++ (s.design.hull ++ ⟨#[10]⟩))
 have e1 : (⟨#[87, 69, 76, 68, 83, 32]⟩ : ByteArray).size = 6 := rfl
 simp only [ByteArray.size_append] at h1
 unfold weldB
 omega
theorem matB_next {s : StateD} {i : Nat} (h : i < s.design.parts.length) : matB s (i + 1) = matB s i ++ matL s s.design.parts[i] := by
 unfold matB
 rw [List.take_add_one, List.getElem?_eq_getElem h, List.foldl_append]
 rfl
theorem weldB_next {s : StateD} {i : Nat} (h : i < s.design.seams.length) : weldB s (i + 1) = weldB s i ++ weldL s s.design.seams[i] := by
 unfold weldB
 rw [List.take_add_one, List.getElem?_eq_getElem h, List.foldl_append]
 rfl
end Go.Proofs.YtojlhapbngcjkaaGreatDoor
noncomputable section
namespace Go.Proofs.YtojlhapbngcjkaaGreatDoor
open Go Go.RowKit
inductive Out where
 | ret (v : Value)
 | pan (v : Value)
abbrev PCall := FuncId → List Value → Tr AObj → Nat → (Out → Tr AObj → Nat → Prop) → Prop
def Out.Ends (ρ : Place) (r : Out) (e : Ending) : Prop :=
 match r with
 | .ret v => ∃ v', e = .returned v' ∧ VR ρ v v'
 | .pan v => ∃ v', e = .panicked [{ v := v', recovered := false }] ∧ VR ρ v v'
def PCallOk (P : Program) (pc : PCall) : Prop :=
 ∀ f args hp nx K, pc f args hp nx K → ∀ (W : Base) ρ w args', Rel ρ W hp nx w → VRL ρ args args' →
  Calls P f args'.toArray w fun e w' => ∃ r hp' nx' ρ', K r hp' nx' ∧ r.Ends ρ' e ∧ Rel ρ' W hp' nx' w' ∧ Step ρ ρ' hp hp' nx nx'
def ofV (vc : VCall) : PCall := fun f args hp nx K => vc f args hp nx fun v _ hp' nx' => K (.ret v) hp' nx'
def onRet (K : Value → Bool → Tr AObj → Nat → Prop) (r : Out) (hp : Tr AObj) (nx : Nat) : Prop :=
 match r with
 | .ret v => K v true hp nx
 | .pan _ => False
def toV (pc : PCall) : VCall := fun f args hp nx K => pc f args hp nx (onRet K)
theorem ofV_ok {P : Program} {vc : VCall} (h : VCallOk P vc) : PCallOk P (ofV vc) := fun f args hp nx K hs W ρ w args' hr ha =>
 (h f args hp nx _ hs W ρ w args' hr ha).mono fun _ _ ⟨v, _, hp', nx', v', ρ', k, _, e, g1, g2, g3⟩ => ⟨.ret v, hp', nx', ρ', k, ⟨v', e, g1⟩, g2, g3⟩
theorem toV_ok {P : Program} {pc : PCall} (h : PCallOk P pc) : VCallOk P (toV pc) := fun f args hp nx K hs W ρ w args' hr ha =>
 (h f args hp nx _ hs W ρ w args' hr ha).mono fun _ _ ⟨r, hp', nx', ρ', k, e, g2, g3⟩ => by
  cases r with
  | ret v => obtain ⟨v', e, g1⟩ := e; exact ⟨v, true, hp', nx', v', ρ', k, fun e => (by cases e), e, g1, g2, g3⟩
  | pan v => exact k.elim
def pheavy (P : Program) (pc : PCall) (hp : Tr AObj) (nx : Nat) (o : Oper) (ev : Operand → Option Value) (K : Out → Tr AObj → Nat → Prop) : Prop :=
 match o.op with
 | .panic x => match ev x with
  | some (.iface t v) => K (.pan (.iface t v)) hp nx
  | _ => False
 | .call c => match c.callee with
  | .value f => match ev f, evL ev c.args.toList with
   | some (.func (.func k) first captured), some args => bif enters P k then pc k (first.toList ++ args ++ captured.toList) hp nx K else False
   | _, _ => False
  | .invoke x name => match ev x, evL ev c.args.toList with
   | some (.iface t v), some args => match aMethod P t name with
    | some k => bif enters P k then pc k (v :: args) hp nx K else False
    | none => False
   | _, _ => False
  | .builtin .panic => match c.args.toList with
   | [x] => match ev x with
    | some (.iface t v) => K (.pan (.iface t v)) hp nx
    | _ => False
   | _ => False
  | _ => vheavy P (toV pc) hp nx o ev fun v _ hp' nx' => K (.ret v) hp' nx'
 | _ => vheavy P (toV pc) hp nx o ev fun v _ hp' nx' => K (.ret v) hp' nx'
theorem pheavy_sound {P : Program} {pc : PCall} {ρ : Place} {W : Base} (hcall : PCallOk P pc) {hp : Tr AObj} {nx : Nat} {w : World} (h : Rel ρ W hp nx w) {ev : Operand → Option Value} {a : Act} (hF : ERel ρ ev a) {o : Oper} {K : Out → Tr AObj → Nat → Prop}
  (hs : pheavy P pc hp nx o ev K) {next : Act → World → Prop} {Q : Exit → Act → World → Prop}
  (hk : ∀ v hp' nx' v' w' ρ', K (.ret v) hp' nx' → VR ρ' v v' → Rel ρ' W hp' nx' w' → Step ρ ρ' hp hp' nx nx' → next (a.put o.dst v') w')
  (hq : ∀ v hp' nx' v' w' ρ', K (.pan v) hp' nx' → VR ρ' v v' → Rel ρ' W hp' nx' w' → Step ρ ρ' hp hp' nx nx' → Q (.panic [{ v := v', recovered := false }]) a w') : o.wp P a w next Q := by
 have base : (vheavy P (toV pc) hp nx o ev fun v _ hp' nx' => K (.ret v) hp' nx') → o.wp P a w next Q := fun hb =>
  vheavy_sound (toV_ok hcall) h hF hb fun v _ hp' nx' v' w' ρ' k _ g1 g2 g3 => hk v hp' nx' v' w' ρ' k g1 g2 g3
 have ends : ∀ (k : FuncId) (args args' : List Value), pc k args hp nx K → VRL ρ args args' → (execOp a.eval o).run P w = .ok (.enter k args'.toArray) w → o.wp P a w next Q := by
  intro k args args' hc hA hrun
  unfold Oper.wp
  rw [hrun]
  refine (hcall k args hp nx K hc W ρ w _ h hA).mono ?_
  rintro e w' ⟨r, hp', nx', ρ', hK, he, g2, g3⟩
  cases r with
  | ret v => obtain ⟨v', rfl, g1⟩ := he; exact hk v hp' nx' v' w' ρ' hK g1 g2 g3
  | pan v => obtain ⟨v', rfl, g1⟩ := he; exact hq v hp' nx' v' w' ρ' hK g1 g2 g3
 have pans : ∀ (t : TypeId) (u : Value) (X : Value), VR ρ (.iface t u) X → K (.pan (.iface t u)) hp nx → (execOp a.eval o).run P w = ((Instr.panic X) >>= fun r => pure (Next.value r)).run P w → o.wp P a w next Q := by
  intro t u X hX hK hrun
  unfold Oper.wp
  rw [hrun]
  cases hX with
  | iface _ hu => exact hq _ _ _ _ _ ρ hK (.iface t hu) h (.refl _ _ _)
 obtain ⟨dst, op, type, pos, after, guard⟩ := o
 unfold pheavy at hs
 cases op <;> dsimp only at hs <;> try exact base hs
 case panic x =>
  split at hs
  case h_2 => exact hs.elim
  rename_i t u hx
  exact pans t u _ (hF.eval hx) hs rfl
 case call c =>
  obtain ⟨callee, args, argTypes⟩ := c
  dsimp only at hs
  split at hs
  ·rename_i f
   split at hs
   case h_2 => exact hs.elim
   rename_i k first captured as0 hf has
   cases he : enters P k with
   | false => rw [he] at hs; exact hs.elim
   | true =>
    rw [he, cond_true] at hs
    have hfv := hF.eval hf
    generalize hE : a.eval f = E at hfv
    cases hfv
    rename_i first' captured' s1 v1 s2 v2
    have hA := evL_sound hF has
    have hL := ((VRA.list ⟨s1, v1⟩).append hA).append (VRA.list ⟨s2, v2⟩)
    refine ends k _ _ hs hL ?_
    have e2 : (first'.toList ++ args.toList.map a.eval ++ captured'.toList).toArray = first' ++ args.map a.eval ++ captured' := by apply Array.ext'; simp
    rw [e2]
    unfold execOp
    simp only [resolve, hE]
    show (callFunc k (first' ++ args.map a.eval ++ captured')).run P w = _
    exact pureRun_run (enters_run he _) w
  ·rename_i x name
   split at hs
   case h_2 => exact hs.elim
   rename_i t v as0 hx has
   split at hs
   case h_2 => exact hs.elim
   rename_i k hm
   cases he : enters P k with
   | false => rw [he] at hs; exact hs.elim
   | true =>
    rw [he, cond_true] at hs
    have hxv := hF.eval hx
    have hA := evL_sound hF has
    generalize hE : a.eval x = E at hxv
    cases hxv with
    | @iface _ _ v' hv =>
     refine ends k (v :: as0) (v' :: args.toList.map a.eval) hs (.cons hv hA) ?_
     have hpos : ∃ j, P.types.size + Made.depth = j + 1 := ⟨P.types.size + Made.depth - 1, by (have : 0 < Made.depth := by decide); omega⟩
     obtain ⟨j, hj⟩ := hpos
     have e2 : (v' :: args.toList.map a.eval).toArray = #[v'] ++ args.map a.eval := by apply Array.ext'; simp
     have e3 : (#[Value.iface t v'] ++ args.map a.eval).extract 1 (#[Value.iface t v'] ++ args.map a.eval).size = args.map a.eval := by
      apply Array.ext'
      simp
      exact List.take_of_length_le (by simp)
     have e0 : (#[Value.iface t v'] ++ args.map a.eval)[0]? = some (.iface t v') := by rw [Array.getElem?_append_left (Nat.zero_lt_one)]; rfl
     rw [e2]
     unfold execOp
     simp only [resolve, hE]
     show (invoke (.fn (.method name) #[]) (#[Value.iface t v'] ++ args.map a.eval)).run P w = _
     unfold invoke
     dsimp only
     rw [e0]
     dsimp only
     rw [e3]
     unfold callMethod
     dsimp only
     have hprog : pureRun P program = some P := rfl
     rw [bind_run hprog]
     rw [hj]
     rw [bind_run (aMethod_run hm v' j)]
     exact pureRun_run (enters_run he _) w
  ·split at hs
   case h_2 => exact hs.elim
   rename_i x hargs
   split at hs
   case h_2 => exact hs.elim
   rename_i t u hx
   refine pans t u _ (hF.eval hx) hs ?_
   have : args = #[x] := by apply Array.ext'; simpa using hargs
   subst this
   have e1 : (#[x].map a.eval) = #[a.eval x] := by simp
   unfold execOp
   simp only [resolve, e1]
   rfl
  ·exact base hs
def isPan : Op → Bool
 | .panic _ => true
 | .call c => match c.callee with
  | .builtin .panic | .invoke _ _ => true
  | _ => false
 | _ => false
def vseqP (P : Program) (pc : PCall) (ops : Array Oper) (n : Nat) : List Oper → AS → (AS → Prop) → (Value → AS → Prop) → Prop
 | [], st, K, _ => K st
 | o :: l, st, K, X => vguard ops st.tm o
   (bif isHeavy o.op || isPan o.op then pheavy P pc st.hp st.nx o (aev st.tm) fun r hp' nx' => match r with
     | .ret v => vsplit v fun v => match aput n st.tm o.dst v with
      | some tm' => vseqP P pc ops n l ⟨tm', hp', nx'⟩ K X
      | none => False
     | .pan v => X v ⟨st.tm, hp', nx'⟩
    else match slight P st.hp o (aev st.tm) with
     | some (.val v, ob) => ob ∧ vsplit v fun v => match aput n st.tm o.dst v with
      | some tm' => vseqP P pc ops n l ⟨tm', st.hp, st.nx⟩ K X
      | none => False
     | some (.new b nv, ob) => match aput n st.tm o.dst (nv.val st.nx) with
      | some tm' => ob ∧ vseqP P pc ops n l ⟨tm', st.hp.put st.nx (some b), st.nx + 1⟩ K X
      | none => False
     | none => False)
   (match aput n st.tm o.dst undef with
    | some tm' => vseqP P pc ops n l ⟨tm', st.hp, st.nx⟩ K X
    | none => False)
theorem vseqP_sound {P : Program} {pc : PCall} {W : Base} (hcall : PCallOk P pc) {ops : Array Oper} {n : Nat} {Q : Exit → Act → World → Prop} : ∀ (l : List Oper) (k : Nat) (st : AS) (K : AS → Prop) (X : Value → AS → Prop) (ρ : Place) (a : Act) (w : World), ops.toList.drop k = l →
  SRel ρ W n st a w → vseqP P pc ops n l st K X → (∀ st', K st' → ∀ a' w' ρ', SRel ρ' W n st' a' w' → Step ρ ρ' st.hp st'.hp st.nx st'.nx → Q .normal a' w') →
  (∀ v st', X v st' → ∀ v' a' w' ρ', VR ρ' v v' → SRel ρ' W n st' a' w' → Step ρ ρ' st.hp st'.hp st.nx st'.nx → Q (.panic [{ v := v', recovered := false }]) a' w') → wpOps P ops Q (List.range' k l.length) a w
 | [], k, st, K, X, ρ, a, w, _, h, hs, hk, _ => by
  simp only [vseqP] at hs
  exact hk st hs a w ρ h (.refl _ _ _)
 | o :: l, k, st, K, X, ρ, a, w, hd, h, hs, hk, hx => by
  simp only [vseqP] at hs
  have hi : ops[k]? = some o := by
   have : (ops.toList.drop k)[0]? = some o := by rw [hd]; rfl
   rw [List.getElem?_drop] at this
   simpa using this
  have next : ∀ (st1 : AS) (a1 : Act) (w1 : World) (ρ1 : Place), SRel ρ1 W n st1 a1 w1 → Step ρ ρ1 st.hp st1.hp st.nx st1.nx → vseqP P pc ops n l st1 K X → wpOps P ops Q (List.range' (k + 1) l.length) a1 w1 :=
   fun st1 a1 w1 ρ1 hr hst hv => vseqP_sound hcall l (k + 1) st1 K X ρ1 a1 w1 (by rw [← List.drop_drop, hd]; rfl) hr hv (fun st' hK a' w' ρ' g1 g2 => hk st' hK a' w' ρ' g1 (hst.trans g2)) (fun v st' hX v' a' w' ρ' g0 g1 g2 => hx v st' hX v' a' w' ρ' g0 g1 (hst.trans g2))
  rw [List.length_cons, List.range'_succ, wpOps_cons]
  unfold wpOp
  simp only [hi]
  rcases vguard_cases hs with ⟨hw, hs⟩ | ⟨hw, hs⟩
  ·rw [awanted_sound h.frame hw, if_pos rfl]
   refine .inl ?_
   cases hh : isHeavy o.op || isPan o.op with
   | true =>
    rw [hh, cond_true] at hs
    refine pheavy_sound hcall h.rel h.frame.ev hs (fun v hp' nx' v' w' ρ' hK q1 q2 q3 => ?_) (fun v hp' nx' v' w' ρ' hK q1 q2 q3 => ?_)
    ·dsimp only at hK
     replace hK := vsplit_ap hK
     split at hK
     case h_2 => exact hK.elim
     rename_i tm' ht
     exact next ⟨tm', hp', nx'⟩ _ _ ρ' ⟨q2, aput_sound (h.frame.mono q3.le) ht q1⟩ q3 hK
    ·exact hx v _ hK v' a w' ρ' q1 ⟨q2, h.frame.mono q3.le⟩ q3
   | false =>
    rw [hh, cond_false] at hs
    split at hs
    ·rename_i v ob hv
     obtain ⟨hob, hs⟩ := hs
     replace hs := vsplit_ap hs
     split at hs
     case h_2 => exact hs.elim
     rename_i tm' ht
     obtain ⟨v', h1, h2⟩ := slight_sound (r := .val v) h.rel h.frame.ev hv hob
     unfold Oper.wp
     rw [h1]
     exact next ⟨tm', st.hp, st.nx⟩ _ _ ρ ⟨h.rel, aput_sound h.frame ht h2⟩ (.refl _ _ _) hs
    ·rename_i ob nv obp hv
     split at hs
     case h_2 => exact hs.elim
     rename_i tm' ht
     obtain ⟨v', ob', d, z, h1, h2, h3⟩ := slight_sound (r := .new ob nv) h.rel h.frame.ev hv hs.1
     unfold Oper.wp
     rw [h1]
     have hrel := ((h.rel.at_drawn d).reserve ob).realize (b := st.nx) (z := z) (ob := ob') (by omega) h.rel.dom_none (by rw [Tr.get_put, if_pos rfl]) (h2 _ h.rel.below.fresh)
     have hle := Place.le_set (x := (w.heap.size, 0, z)) h.rel.dom_none
     exact next ⟨tm', st.hp.put st.nx (some ob), st.nx + 1⟩ _ _ _ ⟨hrel, aput_sound (h.frame.mono hle) ht (h3 _ _ (Place.set_same ρ st.nx _))⟩ ⟨hle, Nat.le_succ _, fun b hb hr => ⟨by rw [Place.set_other (by omega)]; exact hr, by show (st.hp.put st.nx (some ob)).get b = _; rw [Tr.get_put, if_neg (by omega)]⟩⟩ hs.2
    ·exact hs.elim
  ·rw [awanted_sound h.frame hw, if_neg (by simp)]
   split at hs
   case h_2 => exact hs.elim
   rename_i tm' ht
   exact next ⟨tm', st.hp, st.nx⟩ _ _ ρ ⟨h.rel, aput_sound h.frame ht (closed_refl (by simp [undef, closed]))⟩ (.refl _ _ _) hs
theorem pheavy_congr {P : Program} {pc : PCall} {hp : Tr AObj} {nx : Nat} {o : Oper} {ev ev' : Operand → Option Value} {K : Out → Tr AObj → Nat → Prop} (h : ∀ x ∈ o.op.operands, ev x = ev' x) : pheavy P pc hp nx o ev K = pheavy P pc hp nx o ev' K := by
 have hb : (vheavy P (toV pc) hp nx o ev fun v _ hp' nx' => K (.ret v) hp' nx') = (vheavy P (toV pc) hp nx o ev' fun v _ hp' nx' => K (.ret v) hp' nx') := vheavy_congr h
 obtain ⟨dst, op, type, pos, after, guard⟩ := o
 unfold pheavy
 cases op <;> dsimp only <;> try exact hb
 case panic x => rw [h x (by simp [Op.operands])]
 case call c =>
  obtain ⟨callee, args, argTypes⟩ := c
  dsimp only
  have hA : evL ev args.toList = evL ev' args.toList := evL_congr fun x hx => h x (by simp [Op.operands, Call.operands]; exact .inr (by simpa using hx))
  split
  ·rename_i f
   rw [hA, h f (by simp [Op.operands, Call.operands])]
  ·rename_i x name
   rw [hA, h x (by simp [Op.operands, Call.operands])]
  ·split
   ·rename_i x hargs
    rw [h x (by
     have : x ∈ args := by (have : x ∈ args.toList := by rw [hargs]; simp); simpa using this
     simp [Op.operands, Call.operands, this])]
   ·rfl
  ·exact hb
def vdrawP (P : Program) (pc : PCall) (ops : Array Oper) (n : Nat) : Nat → Array Bool → AS → List Rd → (AS → Prop) → (Value → AS → Prop) → Prop
 | 0, listed, st, _, K, _ => match Region.ready .any ops listed with
  | [] => K st
  | _ => False
 | f + 1, listed, st, rds, K, X => match Region.ready .any ops listed with
  | [] => K st
  | r :: rs => match (r :: rs).find? (lightIdx ops) with
   | some i => match ops[i]? with
    | some o => vguard ops st.tm o
      (match slight P st.hp o (aev st.tm) with
      | some (.val v, ob) => ob ∧ vsplit v fun v => match aput n st.tm o.dst v with
       | some tm' => vdrawP P pc ops n f (listed.setIfInBounds i true) ⟨tm', st.hp, st.nx⟩ (bif isRead o (aev st.tm) then ⟨i, o, st.tm, v⟩ :: rds else rds) K X
       | none => False
      | some (.new b nv, ob) => match aput n st.tm o.dst (nv.val st.nx) with
       | some tm' => bif isRead o (aev st.tm) then False else ob ∧ vdrawP P pc ops n f (listed.setIfInBounds i true) ⟨tm', st.hp.put st.nx (some b), st.nx + 1⟩ rds K X
       | none => False
      | none => False)
      (match aput n st.tm o.dst undef with
      | some tm' => vdrawP P pc ops n f (listed.setIfInBounds i true) ⟨tm', st.hp, st.nx⟩ rds K X
      | none => False)
    | none => False
   | none => match rs with
    | [] => match ops[r]? with
     | some o => vguard ops st.tm o
       (pheavy P pc st.hp st.nx o (aev st.tm) fun res hp' nx' => match res with
        | .ret v => vsplit v fun v => match aput n st.tm o.dst v with
         | some tm' => vstab P hp' ops r rds ∧ vdrawP P pc ops n f (listed.setIfInBounds r true) ⟨tm', hp', nx'⟩ rds K X
         | none => False
        | .pan v => X v ⟨.e, hp', nx'⟩)
       (match aput n st.tm o.dst undef with
       | some tm' => vdrawP P pc ops n f (listed.setIfInBounds r true) ⟨tm', st.hp, st.nx⟩ rds K X
       | none => False)
     | none => False
    | _ => False
section
variable {P : Program} {W : Base} {ops : Array Oper} {n : Nat} {st0 : AS} {ρ0 : Place} {Q : Exit → Act → World → Prop}
theorem vdrawP_main {pc : PCall} (hcall : PCallOk P pc) (hD : drawOk ops = true) {K : AS → Prop} {X : Value → AS → Prop} (hQ : ∀ st, K st → ∀ a' w' ρ', SRel ρ' W n st a' w' → Step ρ0 ρ' st0.hp st.hp st0.nx st.nx → Q .normal a' w')
  (hX : ∀ v st, X v st → ∀ v' a' w' ρ', VR ρ' v v' → SRel ρ' W n st a' w' → Step ρ0 ρ' st0.hp st.hp st0.nx st.nx → Q (.panic [{ v := v', recovered := false }]) a' w') :
  ∀ (m f : Nat) (C : Array Bool) (st : AS) (rds : List Rd) (I : Info) (L : Array Bool) (a : Act) (w : World) (ρ : Place), unl ops L ≤ m → Inv P W ops n st0 ρ0 C st rds I L a w ρ → vdrawP P pc ops n f C st rds K X → wpAny P .any ops Q m L a w := by
 intro m
 induction m with
 | zero =>
  intro f C st rds I L a w ρ hm h hs
  have hr : Region.ready .any ops L = [] := by
   have hnil : ((List.range ops.size).filter fun i => !L.getD i true) = [] := List.eq_nil_of_length_eq_zero (Nat.le_zero.1 hm)
   apply List.eq_nil_iff_forall_not_mem.2
   intro j hj
   obtain ⟨h1, o, h2, h3⟩ := mem_ready.1 hj
   have : j ∈ ((List.range ops.size).filter fun i => !L.getD i true) := by
    simp only [List.mem_filter, List.mem_range]
    exact ⟨(Array.getElem?_eq_some_iff.1 h2).1, by rw [h1]; rfl⟩
   rw [hnil] at this
   cases this
  have hall := h.all hD hr
  have hallI : ∀ i, i < ops.size → In L i := fun i hi => Classical.byContradiction fun hn => by
   have : i ∈ ((List.range ops.size).filter fun i => !L.getD i true) := by
    simp only [List.mem_filter, List.mem_range]
    exact ⟨hi, by rw [unlisted_of (by rw [h.ls]; exact hi) hn]; rfl⟩
   rw [List.eq_nil_of_length_eq_zero (Nat.le_zero.1 hm)] at this
   cases this
  have hrC : Region.ready .any ops C = [] := by
   apply List.eq_nil_iff_forall_not_mem.2
   intro j hj
   obtain ⟨h1, o, h2, h3⟩ := mem_ready.1 hj
   exact (unlisted h1).2 (h.sub j (hallI j (Array.getElem?_eq_some_iff.1 h2).1))
  have hst : K st := by
   cases f with
   | zero => simp only [vdrawP, hrC] at hs; exact hs
   | succ f => simp only [vdrawP, hrC] at hs; exact hs
  exact ⟨hr, hQ st hst a w ρ (h.done hall) h.step⟩
 | succ m ihm =>
  intro f
  induction f with
  | zero =>
   intro C st rds I L a w ρ hm h hs
   have hs0 := hs
   simp only [vdrawP] at hs
   split at hs
   case h_2 => exact hs.elim
   rename_i hrC
   refine ⟨fun hr => hQ st hs a w ρ (h.done (h.all hD hr)) h.step, fun j hj => ?_⟩
   obtain ⟨h1, h2, h3, o, h4, h5⟩ := ready_in h.cs h.sub hj
   rw [hrC] at h1
   have hjC := h1.resolve_right (by simp)
   refine wpOp_mono ?_ (h.run hD h4 hjC h2 h5)
   rintro a' w' ⟨ρ', h'⟩
   refine ihm 0 C _ rds I _ a' w' ρ' ?_ h' hs0
   have := unl_set (ops := ops) (L := L) h3 h.ls (mem_ready.1 hj).1
   omega
  | succ f ihf =>
   intro C st rds I L a w ρ hm h hs
   have pending : ∀ j, j ∈ Region.ready .any ops L → In C j → ∀ o, ops[j]? = some o → (∀ e ∈ o.after, Region.binds .any e = true → In L e.on) → wpOp P ops Q j (wpAny P .any ops Q m (L.setIfInBounds j true)) a w := by
    intro j hj hjC o ho hall
    refine wpOp_mono ?_ (h.run hD ho hjC (unlisted (mem_ready.1 hj).1).2 hall)
    rintro a' w' ⟨ρ', h'⟩
    refine ihm (f + 1) C st rds I _ a' w' ρ' ?_ h' hs
    have := unl_set (ops := ops) (L := L) (Array.getElem?_eq_some_iff.1 ho).1 h.ls (mem_ready.1 hj).1
    omega
   have hs0 := hs
   simp only [vdrawP] at hs
   split at hs
   ·rename_i hrC
    refine ⟨fun hr => hQ st hs a w ρ (h.done (h.all hD hr)) h.step, fun j hj => ?_⟩
    obtain ⟨h1, h2, h3, o, h4, h5⟩ := ready_in h.cs h.sub hj
    rw [hrC] at h1
    exact pending j hj (h1.resolve_right (by simp)) o h4 h5
   ·rename_i r rs hrC
    split at hs
    ·rename_i i hf
     have him : i ∈ Region.ready .any ops C := by rw [hrC]; exact List.mem_of_find?_eq_some hf
     have hil := List.find?_some hf
     obtain ⟨g1, o, g2, g3⟩ := mem_ready.1 him
     have hnC := (unlisted g1).2
     have hh : isHeavy o.op = false := by
      unfold lightIdx at hil
      rw [g2] at hil
      simpa using hil
     rw [g2] at hs
     dsimp only at hs
     rcases vguard_cases hs with ⟨hw, hs⟩ | ⟨hw, hs⟩
     ·split at hs
      ·rename_i v ob hv
       obtain ⟨hob, hs⟩ := hs
       replace hs := vsplit_ap hs
       split at hs
       case h_2 => exact hs.elim
       rename_i tm' ht
       refine ihf _ ⟨tm', st.hp, st.nx⟩ _ (I.set i st.tm v none) L a w ρ hm (h.absorb hD g2 hnC g3 hh (st' := ⟨tm', st.hp, st.nx⟩) (v := v) (B := none) ht h.rel (fun _ _ h => h) (Nat.le_refl _) h.step (fun b hb => by cases hb) (fun I' e1 e2 e3 => .inr (.inl ⟨by rw [e1]; exact hw, .inr ⟨ob, by rw [e1, e2]; exact hv, hob⟩, e3⟩)) ?_ ?_) hs
       ·intro x hx
        cases isRead o (aev st.tm) <;> simp [hx]
       ·intro _ hrd
        rw [hrd]
        simp
      ·rename_i ob nv obp hv
       split at hs
       case h_2 => exact hs.elim
       rename_i tm' ht
       cases hrd : isRead o (aev st.tm) with
       | true => rw [hrd] at hs; exact hs.elim
       | false =>
        rw [hrd, cond_false] at hs
        obtain ⟨hob, hs⟩ := hs
        refine ihf _ ⟨tm', st.hp.put st.nx (some ob), st.nx + 1⟩ _ (I.set i st.tm (nv.val st.nx) (some st.nx)) L a w ρ hm (h.absorb hD g2 hnC g3 hh (st' := ⟨tm', st.hp.put st.nx (some ob), st.nx + 1⟩) (v := nv.val st.nx) (B := some st.nx) ht (h.rel.reserve ob) ?_ (Nat.le_succ _) ?_ (fun b hb => by cases hb; exact Nat.le_refl _) (fun I' e1 e2 e3 => ?_) (fun _ h => h) (fun _ h' => by rw [hrd] at h'; cases h')) hs
        ·intro b x hb
         have : b ≠ st.nx := fun e => by rw [e, h.rel.fresh _ (Nat.le_refl _)] at hb; cases hb
         rw [Tr.get_put, if_neg this]
         exact hb
        ·exact ⟨h.step.le, Nat.le_succ_of_le h.step.more, fun b hb hr => by
          have := h.step.old b hb hr
          refine ⟨this.1, ?_⟩
          rw [Tr.get_put, if_neg (by have := h.step.more; omega)]
          exact this.2⟩
        ·refine .inr (.inr ⟨by rw [e1]; exact hw, by rw [e1]; exact hrd, ob, nv, st.nx, ?_, e2, e3, by simp, h.step.more, h.rel.dom_none, by rw [Tr.get_put, if_pos rfl]⟩)
         rw [e1]
         exact LOk.still (hp := st.hp) hrd (.inr ⟨obp, hv, hob⟩)
      ·exact hs.elim
     ·split at hs
      case h_2 => exact hs.elim
      rename_i tm' ht
      exact ihf _ ⟨tm', st.hp, st.nx⟩ _ (I.set i st.tm undef none) L a w ρ hm (h.absorb hD g2 hnC g3 hh (st' := ⟨tm', st.hp, st.nx⟩) (v := undef) (B := none) ht h.rel (fun _ _ h => h) (Nat.le_refl _) h.step (fun b hb => by cases hb) (fun I' e1 e2 e3 => .inl ⟨by rw [e1]; exact hw, e2, e3⟩) (fun _ h => h) (fun h' => by rw [hw] at h'; cases h')) hs
    ·split at hs
     case h_2 => exact hs.elim
     split at hs
     case h_2 => exact hs.elim
     rename_i o ho
     have hrm : r ∈ Region.ready .any ops C := by rw [hrC]; simp
     obtain ⟨g1, o', g2, g3⟩ := mem_ready.1 hrm
     rw [ho] at g2
     cases g2
     have hnC := (unlisted g1).2
     refine ⟨fun hr => ?_, fun j hj => ?_⟩
     ·exfalso
      have hall := h.all hD hr
      have : r ∈ Region.ready .any ops L := mem_ready.2 ⟨unlisted_of (by rw [h.ls]; exact (Array.getElem?_eq_some_iff.1 ho).1) (fun h' => hnC (h.sub r h')), o, ho, fun e he hb => hall _ (g3 e he hb)⟩
      rw [hr] at this
      cases this
     ·obtain ⟨h1, h2, h3, oj, h4, h5⟩ := ready_in h.cs h.sub hj
      rcases h1 with h1 | h1
      ·exact pending j hj h1 oj h4 h5
      ·rw [hrC] at h1
       have hjr : j = r := by simpa using h1
       subst hjr
       rw [ho] at h4
       cases h4
       have hlk := h.heavyLook hD ho hnC g3 h5
       obtain ⟨ev', he1, he2⟩ := erel_of_looks hlk
       have fin : ∀ (st' : AS) (a' : Act) (w' : World), (∃ ρ' I', Inv P W ops n st0 ρ0 (C.setIfInBounds j true) st' rds I' (L.setIfInBounds j true) a' w' ρ') → vdrawP P pc ops n f (C.setIfInBounds j true) st' rds K X → wpAny P .any ops Q m (L.setIfInBounds j true) a' w' := by
        rintro st' a' w' ⟨ρ', I', h'⟩ hs'
        refine ihm f _ st' rds I' _ a' w' ρ' ?_ h' hs'
        have := unl_set (ops := ops) (L := L) h3 h.ls (mem_ready.1 hj).1
        omega
       unfold wpOp
       simp only [ho]
       rcases vguard_cases hs with ⟨hw, hs⟩ | ⟨hw, hs⟩
       ·rw [awanted_sound' h.size hlk hw, if_pos rfl]
        rw [pheavy_congr he2] at hs
        refine .inl (pheavy_sound hcall h.rel he1 hs (fun v hp' nx' v' w' ρ' hK q1 q2 q3 => ?_) (fun v hp' nx' v' w' ρ' hK q1 q2 q3 => ?_))
        ·dsimp only at hK
         replace hK := vsplit_ap hK
         split at hK
         case h_2 => exact hK.elim
         rename_i tm' ht
         exact fin ⟨tm', hp', nx'⟩ _ _ (h.heavyFin hD ho hnC g3 h5 (st' := ⟨tm', hp', nx'⟩) (.inr (vstab_ok hK.1)) v v' w' ρ' ht q1 q2 q3) hK.2
        ·exact hX v ⟨.e, hp', nx'⟩ hK v' a w' ρ' q1 ⟨q2, ⟨h.size, h.defers, fun t u hu => by cases hu⟩⟩ (h.step.trans q3)
       ·rw [awanted_sound' h.size hlk hw, if_neg (by simp)]
        split at hs
        case h_2 => exact hs.elim
        rename_i tm' ht
        exact fin ⟨tm', st.hp, st.nx⟩ _ _ (h.heavyFin hD ho hnC g3 h5 (st' := ⟨tm', st.hp, st.nx⟩) (.inl rfl) undef undef w ρ ht (closed_refl (by simp [undef, closed])) h.rel (.refl _ _ _)) hs
end
def vregionP (P : Program) (pc : PCall) (n : Nat) (ops : Array Oper) (draw : Bool) (st : AS) (K : AS → Prop) (X : Value → AS → Prop) : Prop :=
 bif draw then (bif drawOk ops then vdrawP P pc ops n ops.size (Array.replicate ops.size false) st [] K X else False) else vseqP P pc ops n ops.toList st K X
theorem vregionP_sound {P : Program} {pc : PCall} {W : Base} (hcall : PCallOk P pc) (hm : P.follows .mixedOrders = true) {ops : Array Oper} {draw : Bool} {id n : Nat} {Q : Exit → Act → World → Prop} {st : AS} {K : AS → Prop} {X : Value → AS → Prop} {ρ : Place} {a : Act} {w : World} (h : SRel ρ W n st a w)
  (hs : vregionP P pc n ops draw st K X) (hk : ∀ st', K st' → ∀ a' w' ρ', SRel ρ' W n st' a' w' → Step ρ ρ' st.hp st'.hp st.nx st'.nx → Q .normal a' w')
  (hx : ∀ v st', X v st' → ∀ v' a' w' ρ', VR ρ' v v' → SRel ρ' W n st' a' w' → Step ρ ρ' st.hp st'.hp st.nx st'.nx → Q (.panic [{ v := v', recovered := false }]) a' w') : (Code.region id ops draw).wp P Q a w := by
 unfold vregionP at hs
 cases draw with
 | true =>
  rw [cond_true] at hs
  cases hD : drawOk ops with
  | false => rw [hD] at hs; exact hs.elim
  | true =>
   rw [hD, cond_true] at hs
   refine wp_region_any hm ?_
   have hnot : ∀ i, ¬ In (Array.replicate ops.size false) i := fun i hi => by
    have := lt_of_in (ops := ops) (by simp) hi
    simp [In, this] at hi
   refine vdrawP_main hcall hD hk hx ops.size ops.size _ st [] ⟨fun _ => .e, fun _ => undef, fun _ => none⟩ _ a _ ρ ?_ ⟨by simp, by simp, fun i hi => (hnot i hi).elim, fun i hi => (hnot i hi).elim, fun i hi => hi, fun j o t hj => (hnot j hj).elim, fun t _ => rfl, h.rel.drew, h.frame.size, h.frame.defers, fun j o t hj => (hnot j hj).elim, fun t v _ hv => h.frame.slot t v hv, fun j o hj => (hnot j hj).elim, fun j k b hj => (hnot j hj).elim, .refl _ _ _, fun j o hj => (hnot j hj).elim⟩ hs
   unfold unl
   exact Nat.le_trans (List.length_filter_le _ _) (by simp)
 | false =>
  rw [cond_false] at hs
  refine wp_region ?_
  rw [List.range_eq_range']
  have := vseqP_sound hcall (Q := Q) ops.toList 0 st K X ρ a w (by simp) h hs hk hx
  simpa using this
def vrunP (P : Program) (pc : PCall) (n : Nat) (lt : List (Nat × List Nat)) (base : List Bool) (H : Code → List Fr → AS → Prop) (Fin : AS → Prop) (X : Value → AS → Prop) : Nat → VM → List Fr → AS → Prop
 | 0, _, _, _ => False
 | f + 1, .normal, k, st => match k with
  | [] => Fin st
  | .seq y :: k' => vrunP P pc n lt base H Fin X f (.code y) k' st
  | .block _ :: k' => vrunP P pc n lt base H Fin X f .normal k' st
  | .loop b :: k' => match slotsOf (rid b) lt with
   | some _ => vloop lt base H b k' st
   | none => vrunP P pc n lt base H Fin X f (.code b) (.loop b :: k') st
 | f + 1, .exit id, k, st => match k with
  | [] => False
  | .block j :: k' => bif id.beq j then vrunP P pc n lt base H Fin X f .normal k' st else vrunP P pc n lt base H Fin X f (.exit id) k' st
  | _ :: k' => vrunP P pc n lt base H Fin X f (.exit id) k' st
 | _ + 1, .ret, _, st => Fin st
 | f + 1, .code c, k, st => match c with
  | .skip | .label _ => vrunP P pc n lt base H Fin X f .normal k st
  | .region _ ops draw => vregionP P pc n ops draw st (fun st' => vrunP P pc n lt base H Fin X f .normal k st') X
  | .seq x y => vrunP P pc n lt base H Fin X f (.code x) (.seq y :: k) st
  | .cond c x y => match aev st.tm c with
   | some (.bool b) => pIf b (vrunP P pc n lt base H Fin X f (.code x) k st) (vrunP P pc n lt base H Fin X f (.code y) k st)
   | _ => False
  | .block id b => vrunP P pc n lt base H Fin X f (.code b) (.block id :: k) st
  | .loop b => match slotsOf (rid b) lt with
   | some _ => vloop lt base H b k st
   | none => vrunP P pc n lt base H Fin X f (.code b) (.loop b :: k) st
  | .exit id => vrunP P pc n lt base H Fin X f (.exit id) k st
  | .ret => vrunP P pc n lt base H Fin X f .ret k st
  | _ => False
theorem contQ_panic {P : Program} {Q : Exit → Act → World → Prop} {a : Act} {w : World} {ch : List PanicEntry} {k : List Fr} (h : Q (.panic ch) a w) : contQ P Q k (.panic ch) a w := by
 induction k with
 | nil => exact h
 | cons x k ih => cases x <;> exact ih
section
variable {P : Program} {pc : PCall} {W : Base} {n : Nat} {lt : List (Nat × List Nat)} {base : List Bool} {H : Code → List Fr → AS → Prop} {Fin : AS → Prop} {X : Value → AS → Prop} {R : Place → AS → Prop} {Q : Exit → Act → World → Prop}
theorem vrunP_sound (hcall : PCallOk P pc) (hm : P.follows .mixedOrders = true)
  (hR : ∀ ρ st ρ' st', R ρ st → Step ρ ρ' st.hp st'.hp st.nx st'.nx → R ρ' st')
  (hH : ∀ b k st, vloop lt base H b k st → ∀ ρ a w, SRel ρ W n st a w → R ρ st → LoopWp P b (contQ P Q k) a w)
  (hF : ∀ st, Fin st → ∀ ρ a w, SRel ρ W n st a w → R ρ st → Q .normal a w ∧ Q .ret a w)
  (hX : ∀ v st, X v st → ∀ ρ v' a w, VR ρ v v' → SRel ρ W n st a w → R ρ st → Q (.panic [{ v := v', recovered := false }]) a w) :
  ∀ (f : Nat) (m : VM) (k : List Fr) (st : AS), vrunP P pc n lt base H Fin X f m k st → ∀ ρ a w, SRel ρ W n st a w → R ρ st → (match m with
   | .code c => c.wp P (contQ P Q k) a w
   | .normal => contQ P Q k .normal a w
   | .exit id => contQ P Q k (.exit id) a w
   | .ret => contQ P Q k .ret a w) := by
 intro f
 induction f with
 | zero => intro m k st h; simp only [vrunP] at h
 | succ f ih =>
  intro m k st h ρ a w hs hr
  cases m with
  | normal =>
   simp only [vrunP] at h
   dsimp only
   cases k with
   | nil => exact (hF st h ρ a w hs hr).1
   | cons x k =>
    cases x with
    | seq y => exact ih (.code y) k st h ρ a w hs hr
    | block id => exact ih .normal k st h ρ a w hs hr
    | loop b =>
     dsimp only at h
     split at h
     ·exact hH b k st h ρ a w hs hr
     ·exact loop_round (ih (.code b) (.loop b :: k) st h ρ a w hs hr)
  | exit id =>
   simp only [vrunP] at h
   dsimp only
   cases k with
   | nil => exact h.elim
   | cons x k =>
    cases x with
    | seq y => exact ih (.exit id) k st h ρ a w hs hr
    | block j =>
     show Exit.inBlock j (contQ P Q k) (.exit id) a w
     simp only [Exit.inBlock]
     dsimp only at h
     cases hj : id.beq j with
     | true =>
      rw [hj] at h
      rw [if_pos (Nat.eq_of_beq_eq_true hj)]
      exact ih .normal k st h ρ a w hs hr
     | false =>
      rw [hj] at h
      rw [if_neg (fun e => by subst e; simp at hj)]
      exact ih (.exit id) k st h ρ a w hs hr
    | loop b => exact ih (.exit id) k st h ρ a w hs hr
  | ret =>
   simp only [vrunP] at h
   exact contQ_ret (hF st h ρ a w hs hr).2
  | code c =>
   simp only [vrunP] at h
   dsimp only
   cases c with
   | skip => exact wp_skip (ih .normal k st h ρ a w hs hr)
   | label l => exact wp_label (ih .normal k st h ρ a w hs hr)
   | region id ops draw => exact vregionP_sound hcall hm hs h (fun st' hK a' w' ρ' g1 g2 => ih .normal k st' hK ρ' a' w' g1 (hR _ _ _ _ hr g2)) (fun v st' hK v' a' w' ρ' g0 g1 g2 => contQ_panic (hX v st' hK ρ' v' a' w' g0 g1 (hR _ _ _ _ hr g2)))
   | seq x y => exact wp_seq (ih (.code x) (.seq y :: k) st h ρ a w hs hr)
   | cond c x y =>
    dsimp only at h
    split at h
    ·rename_i b hc
     have := hs.frame.eval hc
     cases b with
     | true =>
      refine wp_cond_true (c := c) ?_ (ih (.code x) k st h ρ a w hs hr)
      generalize a.eval c = z at this
      cases this
      rfl
     | false =>
      refine wp_cond_false (c := c) ?_ (ih (.code y) k st h ρ a w hs hr)
      generalize a.eval c = z at this
      cases this
      rfl
    ·exact h.elim
   | block id b => exact wp_block (ih (.code b) (.block id :: k) st h ρ a w hs hr)
   | loop b =>
    dsimp only at h
    split at h
    ·exact loop_of (hH b k st h ρ a w hs hr)
    ·exact loop_of (loop_round (ih (.code b) (.loop b :: k) st h ρ a w hs hr))
   | exit id => exact wp_exit (ih (.exit id) k st h ρ a w hs hr)
   | ret => exact wp_ret (ih .ret k st h ρ a w hs hr)
   | goto l => exact h.elim
   | refuse y => exact h.elim
   | scope b => exact h.elim
   | rangeFunc f ps x y => exact h.elim
end
abbrev PX : Type := Out → List (List Value) → Prop
end Go.Proofs.YtojlhapbngcjkaaGreatDoor

noncomputable section
namespace Go.Proofs.YtojlhapbngcjkaaGreatDoor
open Go Go.RowKit
set_option maxRecDepth 100000
set_option maxHeartbeats 8000000
def GoodX (P : Program) (n : Nat) (base : List Bool) (Fin : AS → Prop) (X : Value → AS → Prop) (b : Code) (k : List Fr) (st : AS) : Prop :=
 ∀ (W : Base) (ρ0 : Place) (Q : Exit → Act → World → Prop), (∀ st, Fin st → ∀ ρ a w, SRel ρ W n st a w → StepG base.length ρ0 ρ → Q .normal a w ∧ Q .ret a w) →
  (∀ v st, X v st → ∀ ρ v' a w, VR ρ v v' → SRel ρ W n st a w → StepG base.length ρ0 ρ → Q (.panic [{ v := v', recovered := false }]) a w) →
  ∀ ρ a w, SRel ρ W n st a w → StepG base.length ρ0 ρ → LoopWp P b (contQ P Q k) a w
theorem goodX_vloop {P : Program} {n : Nat} {lt : List (Nat × List Nat)} {base : List Bool} {Fin : AS → Prop} {X : Value → AS → Prop} {b : Code} {k : List Fr} {st : AS} (h : vloop lt base (GoodX P n base Fin X) b k st) : GoodX P n base Fin X b k st := by
 unfold vloop at h
 split at h
 case h_2 => exact h.elim
 split at h
 case h_2 => exact h.elim
 rename_i st0 ob0 hz
 split at h
 case h_2 => exact h.elim
 rename_i st' ob hc
 intro W ρ0 Q hF hX ρ a w hs hr
 obtain ⟨ρ1, f1, f2⟩ := frzTms_sound hs hz h.1
 obtain ⟨ρ', g1, g2, g3⟩ := canon_sound f1 hc h.2.1
 exact h.2.2 W ρ0 Q hF hX ρ' a w g1 ⟨fun b x hb hx => by rw [g3 b hb]; exact f2.1 b x (hr.1 b x hb hx), fun c x hx => by rw [g2]; exact f2.2 c x (hr.2 c x hx)⟩
theorem goodX_round {P : Program} {pc : PCall} (hcall : PCallOk P pc) (hm : P.follows .mixedOrders = true) {n : Nat} {lt : List (Nat × List Nat)} {base : List Bool} {Fin : AS → Prop} {X : Value → AS → Prop} {b : Code} {k : List Fr} {st : AS} (f : Nat)
  (h : vrunP P pc n lt base (GoodX P n base Fin X) Fin X f (.code b) (.loop b :: k) st) : GoodX P n base Fin X b k st := by
 intro W ρ0 Q hF hX ρ a w hs hr
 refine loop_round ?_
 exact vrunP_sound (R := fun ρ _ => StepG base.length ρ0 ρ) hcall hm (fun ρ st ρ' st' h k => h.step k) (fun b k st h ρ a w hs hr => goodX_vloop h W ρ0 Q hF hX ρ a w hs hr) hF hX f (.code b) (.loop b :: k) st h ρ a w hs hr
def frzRow (N : Nat) : List Value → Tr AObj → Option (List Value × Tr AObj × Prop)
 | [], hp => some ([], hp, True)
 | v :: l, hp => match frzS N hp v with
  | some (u, hp1, o1) => match frzRow N l hp1 with
   | some (us, hp2, o2) => some (u :: us, hp2, o1 ∧ o2)
   | none => none
  | none => none
theorem frzS_get {N : Nat} {hp hp' : Tr AObj} {v u : Value} {ob : Prop} (h : frzS N hp v = some (u, hp', ob)) {i : Nat} (hi : i < N) : hp'.get i = hp.get i := by
 unfold frzS at h
 split at h
 ·rename_i b o n sz
  split at h
  case h_2 => cases h
  cases hb : N.ble b with
  | false => rw [hb] at h; cases h
  | true =>
   rw [hb] at h
   cases h
   have := Nat.le_of_ble_eq_true hb
   rw [Tr.get_put, if_neg (by omega)]
 ·cases h; rfl
theorem frzRow_get {N : Nat} {i : Nat} (hi : i < N) : ∀ {l us : List Value} {hp hp' : Tr AObj} {ob : Prop}, frzRow N l hp = some (us, hp', ob) → hp'.get i = hp.get i
 | [], us, hp, hp', ob, h => by simp only [frzRow] at h; cases h; rfl
 | v :: l, us, hp, hp', ob, h => by
  simp only [frzRow] at h
  split at h
  case h_2 => cases h
  rename_i u hp1 o1 h1
  split at h
  case h_2 => cases h
  rename_i us0 hp2 o2 h2
  cases h
  rw [frzRow_get hi h2, frzS_get h1 hi]
theorem frzRow_len {N : Nat} : ∀ {l us : List Value} {hp hp' : Tr AObj} {ob : Prop}, frzRow N l hp = some (us, hp', ob) → us.length = l.length
 | [], us, hp, hp', ob, h => by simp only [frzRow] at h; cases h; rfl
 | v :: l, us, hp, hp', ob, h => by
  simp only [frzRow] at h
  split at h
  case h_2 => cases h
  rename_i u hp1 o1 h1
  split at h
  case h_2 => cases h
  rename_i us0 hp2 o2 h2
  cases h
  exact congrArg (· + 1) (frzRow_len h2)
theorem frzRow_sound {N : Nat} {W : Base} {nx : Nat} {w : World} : ∀ {l l' us : List Value} {ρ : Place} {hp hp' : Tr AObj} {ob : Prop}, Rel ρ W hp nx w → VRL ρ l l' → frzRow N l hp = some (us, hp', ob) → ob →
  ∃ ρ', Rel ρ' W hp' nx w ∧ ρ.le ρ' ∧ VRL ρ' us l'
 | [], l', us, ρ, hp, hp', ob, h, hl, hf, _ => by
  simp only [frzRow] at hf
  cases hf
  cases hl
  exact ⟨ρ, h, .refl _, .nil⟩
 | v :: l, l', us, ρ, hp, hp', ob, h, hl, hf, hob => by
  simp only [frzRow] at hf
  split at hf
  case h_2 => cases hf
  rename_i u hp1 o1 h1
  split at hf
  case h_2 => cases hf
  rename_i us0 hp2 o2 h2
  cases hf
  cases hl with
  | cons hv hl =>
   obtain ⟨ρ1, g1, g2, g3⟩ := frzS_sound h hv h1 hob.1
   obtain ⟨ρ2, k1, k2, k3⟩ := frzRow_sound g1 (hl.mono g2.le) h2 hob.2
   exact ⟨ρ2, k1, g2.le.trans k2, .cons (g3.mono k2) k3⟩
theorem Rel.recell {ρ : Place} {W : Base} {hp : Tr AObj} {nx : Nat} {w : World} (h : Rel ρ W hp nx w) {i : Nat} {l us : List Value} (hi : hp.get i = some (.cells l true)) (hlen : us.length = l.length)
  (hu : ∀ c s z cs t fz, ρ i = some (c, s, z) → w.heap[c]? = some (.cells cs t fz) → ∀ (j : Nat) (u : Value), us[j]? = some u → ∃ v', cs[s + j]? = some v' ∧ VR ρ u v') : Rel ρ W (hp.put i (some (.cells us true))) nx w := by
 have live : ∀ b o, (hp.put i (some (.cells us true))).get b = some o → ∃ o', hp.get b = some o' ∧ (o.wr = true → o'.wr = true) := fun b o ho => by
  rw [Tr.get_put] at ho
  by_cases e : b = i
  ·subst e; exact ⟨_, hi, fun _ => rfl⟩
  ·rw [if_neg e] at ho; exact ⟨o, ho, fun h => h⟩
 refine ⟨h.dom, fun b o c s z ho hb => ?_, fun b b' x x' o o' h1 h2 hx hx' hxx => ?_, fun b hb => ?_, h.below, h.frz, fun b o c s z ho hw hb => ?_, h.frn⟩
 ·rw [Tr.get_put] at ho
  by_cases e : b = i
  ·subst e
   rw [if_pos rfl] at ho
   cases ho
   obtain ⟨ob, e1, e2⟩ := h.obj b _ c s z hi hb
   refine ⟨ob, e1, ?_⟩
   cases ob <;> try exact e2.elim
   obtain ⟨k1, k2, k3, k4, k5⟩ := e2
   exact ⟨k1, by rw [hlen]; exact k2, k3, fun j u hj => hu c s z _ _ _ hb e1 j u hj, k5⟩
  ·rw [if_neg e] at ho
   exact h.obj b o c s z ho hb
 ·obtain ⟨_, g1, _⟩ := live b o h1
  obtain ⟨_, g2, _⟩ := live b' o' h2
  exact h.inj b b' x x' _ _ g1 g2 hx hx' hxx
 ·rw [Tr.get_put]
  by_cases e : b = i
  ·subst e; have := h.fresh b hb; rw [hi] at this; cases this
  ·rw [if_neg e]; exact h.fresh b hb
 ·obtain ⟨o', g1, g2⟩ := live b o ho
  exact h.apart b o' c s z g1 (g2 hw) hb
def frzBl (N : Nat) : Nat → Nat → Tr AObj → Option (Tr AObj × Prop)
 | 0, _, hp => some (hp, True)
 | k + 1, i, hp => match hp.get i with
  | some (.cells l true) => bif i.blt N then match frzRow N l hp with
   | some (us, hp1, o1) => match frzBl N k (i + 1) (hp1.put i (some (.cells us true))) with
    | some (hp2, o2) => some (hp2, o1 ∧ o2)
    | none => none
   | none => none
   else none
  | _ => none
theorem frzBl_sound {N : Nat} {W : Base} {nx : Nat} {w : World} : ∀ {k i : Nat} {ρ : Place} {hp hp' : Tr AObj} {ob : Prop}, (∀ b, b < N → ∃ x, ρ b = some x) → Rel ρ W hp nx w → frzBl N k i hp = some (hp', ob) → ob → ∃ ρ', Rel ρ' W hp' nx w ∧ ρ.le ρ'
 | 0, i, ρ, hp, hp', ob, _, h, hf, _ => by
  simp only [frzBl] at hf
  cases hf
  exact ⟨ρ, h, .refl _⟩
 | k + 1, i, ρ, hp, hp', ob, hpl, h, hf, hob => by
  simp only [frzBl] at hf
  split at hf
  case h_2 => cases hf
  rename_i l hl
  cases hb : i.blt N with
  | false => rw [hb] at hf; cases hf
  | true =>
   have hi : i < N := Nat.le_of_ble_eq_true hb
   rw [hb, cond_true] at hf
   split at hf
   case h_2 => cases hf
   rename_i us hp1 o1 h1
   split at hf
   case h_2 => cases hf
   rename_i hp2 o2 h2
   cases hf
   have hi1 := frzRow_get hi h1
   rw [hl] at hi1
   have hlenU := frzRow_len h1
   -- the concrete row
   have key : ∃ ρ1, Rel ρ1 W hp1 nx w ∧ ρ.le ρ1 ∧ ∀ c s z cs t fz, ρ1 i = some (c, s, z) → w.heap[c]? = some (.cells cs t fz) → ∀ (j : Nat) (u : Value), us[j]? = some u → ∃ v', cs[s + j]? = some v' ∧ VR ρ1 u v' := by
    obtain ⟨x, hr⟩ := hpl i hi
    obtain ⟨c, s, z⟩ := x
    obtain ⟨ob, e1, e2⟩ := h.obj i _ c s z hl hr
    cases ob <;> try exact e2.elim
    rename_i cs t fz
    obtain ⟨k1, k2, k3, k4, k5⟩ := e2
    have hrow : VRL ρ l ((cs.toList.drop s).take l.length) := by
     refine .of ?_ fun j v v' hj hj' => ?_
     ·rw [List.length_take, List.length_drop]
      simp only [Array.length_toList]
      omega
     ·obtain ⟨v2, q1, q2⟩ := k4 j v hj
      have hlt := (List.getElem?_eq_some_iff.1 hj).1
      rw [List.getElem?_take, if_pos hlt, List.getElem?_drop, Array.getElem?_toList, q1] at hj'
      cases hj'
      exact q2
    obtain ⟨ρ1, g1, g2, g3⟩ := frzRow_sound h hrow h1 hob.1
    refine ⟨ρ1, g1, g2, fun c' s' z' cs' t' fz' hr' hc' j u hj => ?_⟩
    have hr2 := g2.1 i _ hr
    rw [hr'] at hr2
    cases hr2
    rw [hc'] at e1
    cases e1
    have hlt : j < l.length := by rw [← hlenU]; exact (List.getElem?_eq_some_iff.1 hj).1
    have hv : ∃ v', ((cs.toList.drop s).take l.length)[j]? = some v' := by
     have hl2 := g3.len
     have : j < ((cs.toList.drop s).take l.length).length := by rw [← hl2, hlenU]; exact hlt
     exact ⟨_, List.getElem?_eq_getElem this⟩
    obtain ⟨v', hv'⟩ := hv
    refine ⟨v', ?_, g3.get hj hv'⟩
    rw [List.getElem?_take, if_pos hlt, List.getElem?_drop, Array.getElem?_toList] at hv'
    exact hv'
   obtain ⟨ρ1, g1, g2, g3⟩ := key
   obtain ⟨ρ2, q1, q2⟩ := frzBl_sound (fun b hb => let ⟨x, hx⟩ := hpl b hb; ⟨x, g2.1 b x hx⟩) (g1.recell hi1 hlenU g3) h2 hob.2
   exact ⟨ρ2, q1, g2.trans q2⟩
def Out.Ends0 (ρ : Place) (r : Out) (e : Ending) : Prop :=
 match r with
 | .ret v => ∃ v', e = .returned v' ∧ VR0 ρ.fr v v'
 | .pan v => ∃ v', e = .panicked [{ v := v', recovered := false }] ∧ VR0 ρ.fr v v'
def SpecX (P : Program) (f : FuncId) (N : Nat) (hp : Tr AObj) (args : List Value) (Post : Out → Tr AObj → Prop) : Prop :=
 ∀ (W : Base) ρ w args', (∀ b, b < N → ∃ x, ρ.pl b = some x) → Rel ρ W hp N w → VRL ρ args args' → Calls P f args'.toArray w fun e w' => ∃ r hp' nx' ρ', Post r hp' ∧ r.Ends0 ρ' e ∧ Rel ρ' W hp' nx' w' ∧ StepG N ρ ρ'
def finX (P : Program) (fn : Func) (N : Nat) (Post : Out → Tr AObj → Prop) (st : AS) : Prop :=
 match ares P st.hp st.tm fn with
 | some v => match frzBl N N 0 st.hp with
  | some (hp1, o1) => match frzR P N fn.resultTypes.toList hp1 v with
   | some (u, hp2, o2) => (o1 ∧ o2) ∧ Post (.ret u) hp2
   | none => False
  | none => False
 | none => False
def panX (N : Nat) (Post : Out → Tr AObj → Prop) (v : Value) (st : AS) : Prop :=
 match frzBl N N 0 st.hp with
 | some (hp1, o1) => bif nl1 v then o1 ∧ Post (.pan v) hp1 else False
 | none => False
def FinQX (P : Program) (fn : Func) (W : Base) (N : Nat) (ρ : Place) (Post : Out → Tr AObj → Prop) (e : Exit) (a : Act) (w : World) : Prop :=
 bodyPost P fn (fun e w' => ∃ r hp' nx' ρ', Post r hp' ∧ r.Ends0 ρ' e ∧ Rel ρ' W hp' nx' w' ∧ StepG N ρ ρ') e a w
theorem stepG_le {N : Nat} {ρ ρ' ρ'' : Place} (h : StepG N ρ ρ') (k : ρ'.le ρ'') : StepG N ρ ρ'' := ⟨fun b x hb hx => k.1 b x (h.1 b x hb hx), fun c x hc => k.2 c x (h.2 c x hc)⟩
theorem stepG_placed {N : Nat} {ρ ρ' : Place} (h : StepG N ρ ρ') (hp : ∀ b, b < N → ∃ x, ρ.pl b = some x) : ∀ b, b < N → ∃ x, ρ'.pl b = some x := fun b hb => let ⟨x, hx⟩ := hp b hb; ⟨x, h.1 b x hb hx⟩
theorem finX_ok {P : Program} {fn : Func} {N n : Nat} {Post : Out → Tr AObj → Prop} {st : AS} (h : finX P fn N Post st) {W : Base} (hd : W.ds = []) {ρ0 ρ : Place} {a : Act} {w : World} (hpl : ∀ b, b < N → ∃ x, ρ0.pl b = some x) (hs : SRel ρ W n st a w) (hr : StepG N ρ0 ρ) :
  FinQX P fn W N ρ0 Post .normal a w ∧ FinQX P fn W N ρ0 Post .ret a w := by
 unfold finX at h
 split at h
 case h_2 => exact h.elim
 rename_i v hv
 split at h
 case h_2 => exact h.elim
 rename_i hp1 o1 h1
 split at h
 case h_2 => exact h.elim
 rename_i u hp2 o2 h2
 obtain ⟨v', r1, r2⟩ := ares_sound hs.rel hs.frame hv
 obtain ⟨ρ1, g1, g2⟩ := frzBl_sound (stepG_placed hr hpl) hs.rel h1 h.1.1
 obtain ⟨ρ2, k1, k2, k3⟩ := frzR_sound g1 (r2.mono g2) h2 h.1.2
 have : ∃ r hp' nx' ρ', Post r hp' ∧ r.Ends0 ρ' (Ending.returned v') ∧ Rel ρ' W hp' nx' w ∧ StepG N ρ0 ρ' :=
  ⟨.ret u, hp2, st.nx, ρ2, h.2, ⟨v', rfl, k3⟩, k1, stepG_le (stepG_le hr g2) k2.le⟩
 exact ⟨⟨hs.frame.defers.trans hd, v', r1, this⟩, ⟨hs.frame.defers.trans hd, v', r1, this⟩⟩
theorem panX_ok {P : Program} {fn : Func} {N n : Nat} {Post : Out → Tr AObj → Prop} {v : Value} {st : AS} (h : panX N Post v st) {W : Base} (hd : W.ds = []) {ρ0 ρ : Place} {v' : Value} {a : Act} {w : World} (hpl : ∀ b, b < N → ∃ x, ρ0.pl b = some x) (hv : VR ρ v v') (hs : SRel ρ W n st a w) (hr : StepG N ρ0 ρ) :
  FinQX P fn W N ρ0 Post (.panic [{ v := v', recovered := false }]) a w := by
 unfold panX at h
 split at h
 case h_2 => exact h.elim
 rename_i hp1 o1 h1
 cases hn : nl1 v with
 | false => rw [hn] at h; exact h.elim
 | true =>
  rw [hn, cond_true] at h
  obtain ⟨ρ1, g1, g2⟩ := frzBl_sound (stepG_placed hr hpl) hs.rel h1 h.1
  exact ⟨hs.frame.defers.trans hd, .pan v, hp1, st.nx, ρ1, h.2, ⟨v', rfl, nl1_sound hn (hv.mono g2)⟩, g1, stepG_le hr g2⟩
theorem specX_of {P : Program} {pc : PCall} (hcall : PCallOk P pc) (hm : P.follows .mixedOrders = true) {f : FuncId} {fn : Func} {c : Code} (hf : P.funcs[f]? = some fn) (hc : fn.body = some c) {lt : List (Nat × List Nat)} {base : List Bool} {hp : Tr AObj} {args : List Value} {Post : Out → Tr AObj → Prop} (k : Nat)
  (h : vrunP P pc (slotsN args fn) lt base (GoodX P (slotsN args fn) base (finX P fn base.length Post) (panX base.length Post)) (finX P fn base.length Post) (panX base.length Post) k (.code c) [] ⟨putArgs 0 args .e, hp, base.length⟩) : SpecX P f base.length hp args Post := by
 intro W ρ w args' hpl hrel hargs
 suffices hb : Calls P f args'.toArray w fun e w' => ∃ r hp' nx' ρ', Post r hp' ∧ r.Ends0 ρ' e ∧ Rel ρ' W.bare hp' nx' w' ∧ StepG base.length ρ ρ' from hb.mono fun e w' ⟨r, hp', nx', ρ', g1, g2, g3, g4⟩ => ⟨r, hp', nx', ρ', g1, g2, g3.unbare, g4⟩
 refine calls_of_wp hf hc ?_
 exact vrunP_sound (R := fun ρ' _ => StepG base.length ρ ρ') (Q := FinQX P fn W.bare base.length ρ Post) hcall hm (fun _ _ _ _ h k => h.step k)
  (fun b k st h ρ' a w hs hr => goodX_vloop h W.bare ρ _ (fun st hst ρ' a w hs hr => finX_ok hst rfl hpl hs hr) (fun v st hst ρ' v' a w hv hs hr => panX_ok hst rfl hpl hv hs hr) ρ' a w hs hr)
  (fun st hst ρ' a w hs hr => finX_ok hst rfl hpl hs hr) (fun v st hst ρ' v' a w hv hs hr => panX_ok hst rfl hpl hv hs hr) k (.code c) [] _ h ρ _ w (start_rel rfl hrel.bare hargs fn) (.refl _ _)
def okc (N : Nat) : Value → Bool
 | .pointer (some ⟨b, _, none⟩) => b.blt N
 | v => nl1 v
def okAll (N : Nat) : List (List Value) → Bool
 | [] => true
 | l :: ls => l.all (okc N) && okAll N ls
theorem okAll_get {N : Nat} : ∀ {ls : List (List Value)}, okAll N ls = true → ∀ l ∈ ls, ∀ v ∈ l, okc N v = true
 | [], _, l, h => by cases h
 | x :: ls, h, l, hl => by
  simp only [okAll, Bool.and_eq_true] at h
  rcases List.mem_cons.1 hl with rfl | hl
  ·exact fun v hv => List.all_eq_true.1 h.1 v hv
  ·exact okAll_get h.2 l hl
def xpost (n : Nat) (Post : Out → List (List Value) → Prop) (r : Out) (hp : Tr AObj) : Prop :=
 match outs hp 0 n with
 | some ls => okAll n ls = true ∧ Post r ls
 | none => False
structure XEnt where
 f : FuncId
 c : List Value → List (List Value) → (Out → List (List Value) → Prop) → Prop
def XEntOk (P : Program) (e : XEnt) : Prop := ∀ args conts Post, e.c args conts Post → SpecX P e.f conts.length (hpOf conts) args (xpost conts.length Post)
def xentOf (f : FuncId) : List XEnt → Option XEnt
 | [] => none
 | e :: l => bif e.f.beq f then some e else xentOf f l
theorem xentOf_mem {f : FuncId} {e : XEnt} : ∀ {l : List XEnt}, xentOf f l = some e → e ∈ l ∧ e.f = f
 | [], h => by simp [xentOf] at h
 | x :: l, h => by
  simp only [xentOf] at h
  cases hx : x.f.beq f with
  | true => rw [hx] at h; cases h; exact ⟨by simp, Nat.eq_of_beq_eq_true hx⟩
  | false => rw [hx, cond_false] at h; exact ⟨by simp [(xentOf_mem h).1], (xentOf_mem h).2⟩
def contsX (bl : List (Nat × Bool)) (hp : Tr AObj) : List (Nat × Bool) → Option (List (List Value))
 | [] => some []
 | (b, _) :: l => match hp.get b with
  | some (.cells c true) => match mapO (ren0 bl) c, contsX bl hp l with
   | some c', some cs => some (c' :: cs)
   | _, _ => none
  | _ => none
theorem contsX_get {bl : List (Nat × Bool)} {hp : Tr AObj} : ∀ {l : List (Nat × Bool)} {cs : List (List Value)}, contsX bl hp l = some cs → cs.length = l.length ∧ ∀ (i b : Nat) (k : Bool), l[i]? = some (b, k) → ∃ c c', cs[i]? = some c' ∧ hp.get b = some (.cells c true) ∧ mapO (ren0 bl) c = some c'
 | [], cs, h => by simp only [contsX] at h; cases h; exact ⟨rfl, fun i b k hi => by simp at hi⟩
 | (b, k) :: l, cs, h => by
  simp only [contsX] at h
  split at h
  case h_2 => cases h
  rename_i c hc
  split at h
  case h_2 => cases h
  rename_i c' cs0 h1 h0
  cases h
  obtain ⟨g1, g2⟩ := contsX_get h0
  refine ⟨by simp [g1], fun i b' k' hi => ?_⟩
  cases i with
  | zero => simp at hi; obtain ⟨rfl, rfl⟩ := hi; exact ⟨c, c', rfl, hc, h1⟩
  | succ i => simpa using g2 i b' k' (by simpa using hi)
def backV (bl : List (Nat × Bool)) : Value → Value
 | .pointer (some ⟨i, o, none⟩) => match bl[i]? with
  | some p => .pointer (some ⟨p.1, o, none⟩)
  | none => undef
 | v => v
def backL (bl : List (Nat × Bool)) (cs : List (List Value)) : List (List Value) := cs.map fun l => l.map (backV bl)
def xcall (e : XEnt) (args : List Value) (hp : Tr AObj) (nx : Nat) (K : Out → Tr AObj → Nat → Prop) : Prop :=
 let bl := scanB hp 60 0 (args.foldl scan1 [])
 bif nodupB bl then match mapO (ren bl) args, contsX bl hp bl with
  | some vs0, some cs => e.c vs0 cs fun r cs' => cs'.length = cs.length ∧ K r (putConts bl (backL bl cs') hp) nx
  | _, _ => False
 else False
def Placed (ρ : Place) (l : List (Nat × Bool)) : Prop := ∀ p ∈ l, ∃ x, ρ.pl p.1 = some x
theorem addB_placed {ρ : Place} {l : List (Nat × Bool)} (h : Placed ρ l) {b : Nat} {k : Bool} {x : Nat × Nat × Nat} (hb : ρ.pl b = some x) : Placed ρ (addB b k l) := fun q hq => by
 obtain ⟨b', k'⟩ := q
 rcases addB_mem hq with hq | rfl
 ·exact h _ hq
 ·exact ⟨_, hb⟩
theorem scan0_p {ρ : Place} {l : List (Nat × Bool)} (h : Placed ρ l) {v v' : Value} (hv : VR ρ v v') : Placed ρ (scan0 l v) := by
 cases hv <;> try exact h
 case ptr hb => exact addB_placed h hb
 case slice hb _ _ => exact addB_placed h hb
 case emptySlice hb => exact addB_placed h hb
 case map hb => exact addB_placed h hb
 case iface ht =>
  cases ht <;> try exact h
  case ptr hb => exact addB_placed h hb
theorem scanL_p {ρ : Place} : ∀ {c : List Value} {l : List (Nat × Bool)}, Placed ρ l → (∀ v ∈ c, ∃ v', VR ρ v v') → Placed ρ (c.foldl scan0 l)
 | [], l, h, _ => h
 | v :: c, l, h, hc => by
  obtain ⟨_, hv⟩ := hc v (by simp)
  exact scanL_p (l := scan0 l v) (scan0_p h hv) fun u hu => hc u (by simp [hu])
theorem scan1_p {ρ : Place} {l : List (Nat × Bool)} (h : Placed ρ l) {v v' : Value} (hv : VR ρ v v') : Placed ρ (scan1 l v) := by
 cases v <;> try exact scan0_p h hv
 case func fn f c =>
  cases fn <;> try exact scan0_p h hv
  cases hv with
  | func _ s1 r1 s2 r2 =>
   have arr : ∀ {x x' : Array Value}, x.size = x'.size → (∀ (i : Nat) (v v' : Value), x[i]? = some v → x'[i]? = some v' → VR ρ v v') → ∀ v ∈ x.toList, ∃ v', VR ρ v v' := fun {x x'} hs hr v hv => by
    obtain ⟨i, hi, rfl⟩ := List.mem_iff_getElem.1 hv
    simp only [Array.length_toList] at hi
    exact ⟨x'[i]'(by omega), hr i _ _ (by simp [hi]) (by simp)⟩
   exact scanL_p (scanL_p h (arr s1 r1)) (arr s2 r2)
theorem scan1L_p {ρ : Place} : ∀ {c : List Value} {l : List (Nat × Bool)}, Placed ρ l → (∀ v ∈ c, ∃ v', VR ρ v v') → Placed ρ (c.foldl scan1 l)
 | [], l, h, _ => h
 | v :: c, l, h, hc => by
  obtain ⟨_, hv⟩ := hc v (by simp)
  exact scan1L_p (l := scan1 l v) (scan1_p h hv) fun u hu => hc u (by simp [hu])
theorem scan1V_p {ρ : Place} : ∀ {args args' : List Value} {l : List (Nat × Bool)}, VRL ρ args args' → Placed ρ l → Placed ρ (args.foldl scan1 l)
 | [], _, l, _, h => h
 | v :: c, args', l, ha, h => by
  cases ha with
  | cons hv hvs => exact scan1V_p (l := scan1 l v) hvs (scan1_p h hv)
theorem scanB_p {ρ : Place} {W : Base} {hp : Tr AObj} {nx : Nat} {w : World} (hr : Rel ρ W hp nx w) : ∀ {f i : Nat} {l : List (Nat × Bool)}, Placed ρ l → Placed ρ (scanB hp f i l)
 | 0, i, l, h => h
 | f + 1, i, l, h => by
  simp only [scanB]
  split
  ·exact h
  ·rename_i b k hb
   refine scanB_p hr ?_
   cases k with
   | false => exact h
   | true =>
    rw [cond_true]
    split
    ·rename_i c wr hc
     obtain ⟨x, hx⟩ := h (b, true) (List.mem_of_getElem? hb)
     obtain ⟨ob, e1, e2⟩ := hr.obj b _ x.1 x.2.1 x.2.2 hc hx
     cases ob <;> try exact e2.elim
     obtain ⟨_, _, _, k4, _⟩ := e2
     have hall : ∀ v ∈ c, ∃ v', VR ρ v v' := fun v hv => by
      obtain ⟨j, hj, rfl⟩ := List.mem_iff_getElem.1 hv
      obtain ⟨v', _, q⟩ := k4 j _ (List.getElem?_eq_getElem hj)
      exact ⟨v', q⟩
     exact scan1L_p h hall
    ·exact h
theorem xcall_ok {P : Program} {e : XEnt} (he : XEntOk P e) {args : List Value} {hp : Tr AObj} {nx : Nat} {K : Out → Tr AObj → Nat → Prop} (h : xcall e args hp nx K) {W : Base} {ρ : Place} {w : World} {args' : List Value} (hrel : Rel ρ W hp nx w) (hargs : VRL ρ args args') :
  Calls P e.f args'.toArray w fun e w' => ∃ r hp' nx' ρ', K r hp' nx' ∧ r.Ends ρ' e ∧ Rel ρ' W hp' nx' w' ∧ Step ρ ρ' hp hp' nx nx' := by
 unfold xcall at h
 dsimp only at h
 have hplaced : Placed ρ (scanB hp 60 0 (args.foldl scan1 [])) := scanB_p hrel (scan1V_p (l := []) hargs (fun p hp => by cases hp))
 generalize scanB hp 60 0 (args.foldl scan1 []) = bl at h hplaced
 cases hnd : nodupB bl with
 | false => rw [hnd] at h; exact h.elim
 | true =>
  rw [hnd, cond_true] at h
  split at h
  case h_2 => exact h.elim
  rename_i vs0 cs ha hc
  obtain ⟨hlen, hget⟩ := contsX_get hc
  have hvia : ∀ (i : Nat) (x : Nat × Nat × Nat), (ρ.via bl).pl i = some x → ∃ (b : Nat) (k : Bool), bl[i]? = some (b, k) ∧ ρ.pl b = some x := fun i x hx => by
   unfold Place.via at hx
   dsimp only at hx
   split at hx
   ·rename_i p hp
    exact ⟨p.1, p.2, hp, hx⟩
   ·cases hx
  have viaAt : ∀ (i b : Nat) (k : Bool), bl[i]? = some (b, k) → (ρ.via bl).pl i = ρ.pl b := fun i b k hi => by unfold Place.via; simp [hi]
  let mu : Nat → Prop := fun c => ∃ (i b : Nat) (k : Bool) (x : Nat × Nat × Nat), bl[i]? = some (b, k) ∧ ρ.pl b = some x ∧ x.1 = c
  have hobj : ∀ i o x, (hpOf cs).get i = some o → (ρ.via bl).pl i = some x → ∃ (b : Nat) (k : Bool) (c0 c : List Value), bl[i]? = some (b, k) ∧ ρ.pl b = some x ∧ mapO (ren0 bl) c0 = some c ∧ o = .cells c true ∧ hp.get b = some (.cells c0 true) := fun i o x ho hx => by
   obtain ⟨b, k, h1, h2⟩ := hvia i x hx
   obtain ⟨c0, c, h3, h4, h5⟩ := hget i b k h1
   rw [hpOf_get, h3] at ho
   cases ho
   exact ⟨b, k, c0, c, h1, h2, h5, rfl, h4⟩
  have muNew : ∀ c, mu c → ¬ W.old c := fun c ⟨i, b, k, x, h1, h2, h3⟩ => by
   obtain ⟨cc, _, _, h4, _⟩ := hget i b k h1
   obtain ⟨ob, _, ho⟩ := hrel.obj b _ x.1 x.2.1 x.2.2 h4 h2
   cases ob <;> try exact ho.elim
   rw [← h3]
   exact ho.2.2.2.2 rfl
  have hrel1 : Rel (ρ.via bl) ⟨w, mu, ρ.fr, []⟩ (hpOf cs) cs.length w := by
   refine ⟨fun i x hx => ?_, fun i o c s z ho hx => ?_, fun i j x y o1 o2 g1 g2 hx hy hxy => ?_, fun i hi => ?_, ⟨rfl, rfl, rfl, Nat.le_refl _, fun _ _ => rfl⟩, hrel.frz, fun i o c s z ho _ hx => ?_, fun c ob hc => .inl hc⟩
   ·obtain ⟨b, k, h1, h2⟩ := hvia i x hx
    refine ⟨?_, (hrel.dom b x h2).2⟩
    rw [hlen]
    exact (List.getElem?_eq_some_iff.1 h1).1
   ·obtain ⟨b, k, c0, cc, h1, h2, h3, rfl, h4⟩ := hobj i o _ ho hx
    obtain ⟨ob, e1, e2⟩ := hrel.obj b _ c s z h4 h2
    refine ⟨ob, e1, ?_⟩
    cases ob <;> try exact e2.elim
    obtain ⟨k1, k2, k3, k4, k5⟩ := e2
    obtain ⟨m1, m2⟩ := mapO_get h3
    refine ⟨k1, by rw [m1]; exact k2, k3, fun j v hv => ?_, fun _ ho' => ho'.2 ⟨i, b, k, _, h1, h2, rfl⟩⟩
    obtain ⟨u, hu, hr0⟩ := m2 j v hv
    obtain ⟨v', q1, q2⟩ := k4 j u hu
    exact ⟨v', q1, ren0_sound hr0 q2⟩
   ·obtain ⟨b, k, c0, cc, h1, h2, h3, _, h4⟩ := hobj i o1 _ g1 hx
    obtain ⟨b', k', c0', cc', r1, r2, r3, _, r4⟩ := hobj j o2 _ g2 hy
    have e := hrel.inj b b' x y _ _ h4 r4 h2 r2 hxy
    subst e
    exact nodupB_inj hnd h1 r1
   ·rw [hpOf_get, List.getElem?_eq_none hi]; rfl
   ·obtain ⟨b, k, c0, cc, h1, h2, h3, _, h4⟩ := hobj i o _ ho hx
    exact hrel.apart b _ c s z h4 rfl h2
  have hargs1 : VRL (ρ.via bl) vs0 args' := mapO_sound (fun _ _ _ => ren_sound) ha hargs
  have hpl1 : ∀ b, b < cs.length → ∃ x, (ρ.via bl).pl b = some x := fun i hi => by
   have hib : i < bl.length := by omega
   obtain ⟨x, hx⟩ := hplaced bl[i] (List.getElem_mem hib)
   exact ⟨x, by rw [viaAt i bl[i].1 bl[i].2 (List.getElem?_eq_getElem hib)]; exact hx⟩
  refine (he vs0 cs _ h ⟨w, mu, ρ.fr, []⟩ (ρ.via bl) w args' hpl1 hrel1 hargs1).mono ?_
  rintro e' w' ⟨r, hp1, nx1, ρ1, hP, hv, hr, hg⟩
  unfold xpost at hP
  split at hP
  case h_2 => exact hP.elim
  rename_i cs' hcs'
  obtain ⟨hnl', hlen', hK⟩ := hP
  obtain ⟨_, hget'⟩ := outs_get hcs'
  have hnls' := okAll_get hnl'
  have hlb : cs'.length = bl.length := hlen'.trans hlen
  have hsz : w.heap.size ≤ w'.heap.size := hr.below.size
  have hle : ρ.le ⟨ρ.pl, ρ1.fr, ρ1.gl⟩ := ⟨fun _ _ h => h, fun c x hc => hg.2 c x hc⟩
  have lt : ∀ {c : Nat} {ob : Obj}, w.heap[c]? = some ob → c < w.heap.size := fun {c ob} hc => by
   rcases Nat.lt_or_ge c w.heap.size with h' | h'
   ·exact h'
   ·rw [Array.getElem?_eq_none h'] at hc; cases hc
  have old : ∀ c, c < w.heap.size → ¬ mu c → w'.heap[c]? = w.heap[c]? := fun c hc hm => hr.below.block c ⟨hc, hm⟩
  -- the blocks that were handed over
  have inb : ∀ b, memB b bl = true → ∃ (i : Nat) (k : Bool) (x : Nat × Nat × Nat) (c c' : List Value), bl[i]? = some (b, k) ∧ ρ.pl b = some x ∧ ρ1.pl i = some x ∧ hp.get b = some (.cells c true) ∧ cs'[i]? = some c' ∧ hp1.get i = some (.cells c' true) ∧ (putConts bl (backL bl cs') hp).get b = some (.cells (c'.map (backV bl)) true) := fun b hb => by
   obtain ⟨i, k, hi⟩ := memB_mem hb
   obtain ⟨x, hx⟩ := hplaced (b, k) (List.mem_of_getElem? hi)
   obtain ⟨c, _, _, h4, _⟩ := hget i b k hi
   have hil : i < bl.length := (List.getElem?_eq_some_iff.1 hi).1
   have hc' : cs'[i]? = some (cs'[i]'(by omega)) := List.getElem?_eq_getElem (by omega)
   have h5 := hget' i _ hc'
   rw [Nat.zero_add] at h5
   exact ⟨i, k, x, c, _, hi, hx, hg.1 i x (by omega) (by rw [viaAt i b k hi]; exact hx), h4, hc', h5, (putConts_get hnd (by unfold backL; rw [List.length_map]; exact hlb) b).1 i k _ hi (by unfold backL; rw [List.getElem?_map, hc']; rfl)⟩
  have outb : ∀ b, memB b bl = false → (putConts bl (backL bl cs') hp).get b = hp.get b := fun b hb => (putConts_get hnd (by unfold backL; rw [List.length_map]; exact hlb) b).2 hb
  have notmu : ∀ b o x, memB b bl = false → hp.get b = some o → ρ.pl b = some x → ¬ mu x.1 := fun b o x hb ho hx ⟨i, b', k, x', h1, h2, h3⟩ => by
   obtain ⟨c, _, _, h4, _⟩ := hget i b' k h1
   have e := hrel.inj b' b x' x _ _ h4 ho h2 hx h3
   subst e
   rw [memB_of h1] at hb
   cases hb
  have live : ∀ b o, (putConts bl (backL bl cs') hp).get b = some o → ∃ o', hp.get b = some o' ∧ (o.wr = true → o'.wr = true) := fun b o ho => by
   cases hb : memB b bl with
   | true =>
    obtain ⟨i, k, x, c, c', h1, h2, h3, h4, h5, h6, h7⟩ := inb b hb
    exact ⟨_, h4, fun _ => rfl⟩
   | false => rw [outb b hb] at ho; exact ⟨o, ho, fun h => h⟩
  have hback : ∀ (c' : List Value), c' ∈ cs' → ∀ u ∈ c', ∀ u', VR ρ1 u u' → VR ⟨ρ.pl, ρ1.fr, ρ1.gl⟩ (backV bl u) u' := fun c' hc' u hu u' hvr => by
   have hok := hnls' c' hc' u hu
   have base : backV bl u = u → nl1 u = true → VR ⟨ρ.pl, ρ1.fr, ρ1.gl⟩ (backV bl u) u' := fun e hn => by
    rw [e]
    have h0 : VR0 ρ1.fr u u' := nl1_sound hn hvr
    exact VR0.lift (ρ := ⟨ρ.pl, ρ1.fr, ρ1.gl⟩) h0
   cases u <;> try exact base rfl hok
   case pointer a =>
    cases a with
    | none => exact base rfl hok
    | some a =>
     obtain ⟨i, o, sp⟩ := a
     cases sp with
     | some sp => exact base rfl hok
     | none =>
      have hi : i < cs.length := Nat.le_of_ble_eq_true hok
      have hib : i < bl.length := by omega
      obtain ⟨x, hx⟩ := hplaced bl[i] (List.getElem_mem hib)
      have h1 := hg.1 i x hi (by rw [viaAt i bl[i].1 bl[i].2 (List.getElem?_eq_getElem hib)]; exact hx)
      show VR _ (match bl[i]? with | some p => _ | none => _) _
      rw [List.getElem?_eq_getElem hib]
      cases hvr with
      | ptr hb =>
       have hb' := hb
       rw [h1] at hb'
       cases hb'
       exact .ptr hx
  have hends : r.Ends ⟨ρ.pl, ρ1.fr, ρ1.gl⟩ e' := by
   cases r with
   | ret v => obtain ⟨v', e, h0⟩ := hv; exact ⟨v', e, VR0.lift (ρ := ⟨ρ.pl, ρ1.fr, ρ1.gl⟩) h0⟩
   | pan v => obtain ⟨v', e, h0⟩ := hv; exact ⟨v', e, VR0.lift (ρ := ⟨ρ.pl, ρ1.fr, ρ1.gl⟩) h0⟩
  refine ⟨r, putConts bl (backL bl cs') hp, nx, ⟨ρ.pl, ρ1.fr, ρ1.gl⟩, hK, hends, ?_, ⟨hle, Nat.le_refl _, fun b hb hn => ⟨hn, ?_⟩⟩⟩
  ·refine ⟨fun b x hb => ⟨(hrel.dom b x hb).1, Nat.lt_of_lt_of_le (hrel.dom b x hb).2 hsz⟩, fun b o c s z ho hx => ?_, fun b b' x x' o o' h1 h2 hx hx' hxx => ?_, fun b hb => ?_, ⟨hr.below.os.trans hrel.below.os, hr.below.tape.trans hrel.below.tape, hr.below.output.trans hrel.below.output, Nat.le_trans hrel.below.size hsz, fun k hk => ?_⟩, hr.frz, fun b o c s z ho hw hx => ?_, fun c ob hc => ?_⟩
   ·cases hb : memB b bl with
    | true =>
     obtain ⟨i, k, x, c0, c', h1, h2, h3, h4, h5, h6, h7⟩ := inb b hb
     rw [h7] at ho
     cases ho
     have hx' : ρ.pl b = some (c, s, z) := hx
     rw [h2] at hx'
     cases hx'
     obtain ⟨ob, e1, e2⟩ := hr.obj i _ c s z h6 h3
     refine ⟨ob, e1, ?_⟩
     cases ob <;> try exact e2.elim
     obtain ⟨k1, k2, k3, k4, k5⟩ := e2
     refine ⟨k1, by rw [List.length_map]; exact k2, k3, fun j u hu => ?_, fun _ => muNew c ⟨i, b, k, _, h1, h2, rfl⟩⟩
     rw [List.getElem?_map] at hu
     cases hj : c'[j]? with
     | none => rw [hj] at hu; cases hu
     | some u0 =>
      rw [hj] at hu
      cases hu
      obtain ⟨u', q1, q2⟩ := k4 j u0 hj
      exact ⟨u', q1, hback c' (List.mem_of_getElem? h5) u0 (List.mem_of_getElem? hj) u' q2⟩
    | false =>
     rw [outb b hb] at ho
     obtain ⟨ob, e1, e2⟩ := hrel.obj b o c s z ho hx
     exact ⟨ob, by rw [old c (lt e1) (notmu b o _ hb ho hx)]; exact e1, e2.mono hle⟩
   ·obtain ⟨_, g1, _⟩ := live b o h1
    obtain ⟨_, g2, _⟩ := live b' o' h2
    exact hrel.inj b b' x x' _ _ g1 g2 hx hx' hxx
   ·cases hm : memB b bl with
    | true =>
     obtain ⟨i, k, x, c0, c', h1, h2, _⟩ := inb b hm
     have := (hrel.dom b x h2).1
     omega
    | false => rw [outb b hm]; exact hrel.fresh b hb
   ·have hkw : k < w.heap.size := Nat.lt_of_lt_of_le hk.1 hrel.below.size
    rw [old k hkw fun hm => muNew k hm hk]
    exact hrel.below.block k hk
   ·show ρ1.fr c = none
    cases hcf : ρ1.fr c with
    | none => rfl
    | some ob =>
     exfalso
     obtain ⟨o', g1, g2⟩ := live b o ho
     have hcl := (hrel.dom b _ hx).2
     cases hb : memB b bl with
     | true =>
      obtain ⟨i, k, x, c0, c', h1, h2, h3, h4, h5, h6, h7⟩ := inb b hb
      have hx' : ρ.pl b = some (c, s, z) := hx
      rw [h2] at hx'
      cases hx'
      have := hr.apart i _ c s z h6 rfl h3
      rw [this] at hcf
      cases hcf
     | false =>
      rcases hr.frn c ob hcf with q | q
      ·have h5 : ρ.fr c = some ob := q
       rw [hrel.apart b o' c s z g1 (g2 hw) hx] at h5
       cases h5
      ·rw [outb b hb] at ho
       exact q ⟨hcl, notmu b o _ hb ho hx⟩
   ·rcases hr.frn c ob hc with q | q
    ·exact hrel.frn c ob q
    ·refine .inr fun h2 => ?_
     have hcw : c < w.heap.size := Nat.lt_of_lt_of_le h2.1 hrel.below.size
     exact q ⟨hcw, fun hm => muNew c hm h2⟩
  ·refine outb b ?_
   cases hm : memB b bl with
   | false => rfl
   | true =>
    obtain ⟨i, k, x, c0, c', h1, h2, _⟩ := inb b hm
    rw [h2] at hn
    cases hn
def xtabCall (tab : List XEnt) (next : PCall) : PCall := fun f args hp nx K =>
 match xentOf f tab with
 | some e => xcall e args hp nx K
 | none => next f args hp nx K
theorem xtabCall_ok {P : Program} {tab : List XEnt} {next : PCall} (ht : ∀ e ∈ tab, XEntOk P e) (hn : PCallOk P next) : PCallOk P (xtabCall tab next) := by
 intro f args hp nx K h W ρ w args' hrel hargs
 unfold xtabCall at h
 split at h
 ·rename_i e he
  obtain ⟨h1, rfl⟩ := xentOf_mem he
  exact xcall_ok (ht e h1) h hrel hargs
 ·exact hn f args hp nx K h W ρ w args' hrel hargs
def inlP (P : Program) (inl : List FuncId) (next : PCall) : Nat → PCall
 | 0 => next
 | k + 1 => fun f args hp nx K => bif inl.contains f then match P.funcs[f]? with
   | some fn => match fn.body with
    | some c => vrunP P (inlP P inl next k) (slotsN args fn) [] [] (fun _ _ _ => False) (fun st => match ares P st.hp st.tm fn with | some v => K (.ret v) st.hp st.nx | none => False) (fun v st => K (.pan v) st.hp st.nx) 1000 (.code c) [] ⟨putArgs 0 args .e, hp, nx⟩
    | none => False
   | none => False
  else next f args hp nx K
theorem inlP_ok {P : Program} (hm : P.follows .mixedOrders = true) {inl : List FuncId} {next : PCall} (hn : PCallOk P next) : ∀ k, PCallOk P (inlP P inl next k)
 | 0 => hn
 | k + 1 => by
  intro f args hp nx K h W ρ w args' hrel hargs
  unfold inlP at h
  cases hi : inl.contains f with
  | false => rw [hi] at h; exact hn f args hp nx K h W ρ w args' hrel hargs
  | true =>
   rw [hi, cond_true] at h
   split at h
   case h_2 => exact h.elim
   rename_i fn hf
   split at h
   case h_2 => exact h.elim
   rename_i c hc
   refine calls_of_wp hf hc ?_
   have fin : ∀ st, (match ares P st.hp st.tm fn with | some v => K (.ret v) st.hp st.nx | none => False) → ∀ ρ' a w', SRel ρ' W.bare (slotsN args fn) st a w' → Step ρ ρ' hp st.hp nx st.nx →
     a.defers = [] ∧ ∃ v', (results fn a.tmps).run P w' = .ok v' w' ∧ ∃ r hp' nx' ρ', K r hp' nx' ∧ r.Ends ρ' (Ending.returned v') ∧ Rel ρ' W hp' nx' w' ∧ Step ρ ρ' hp hp' nx nx' := by
    intro st hst ρ' a w' hs hr
    split at hst
    case h_2 => exact hst.elim
    rename_i v hv
    obtain ⟨v', r1, r2⟩ := ares_sound hs.rel hs.frame hv
    exact ⟨hs.frame.defers, v', r1, .ret v, st.hp, st.nx, ρ', hst, ⟨v', rfl, r2⟩, hs.rel.unbare, hr⟩
   exact vrunP_sound (W := W.bare) (R := fun ρ' st => Step ρ ρ' hp st.hp nx st.nx) (inlP_ok hm hn k) hm (fun _ _ _ _ h k => h.trans k)
    (fun b k st h ρ' a w hs hr => by
     unfold vloop at h
     split at h
     case h_2 => exact h.elim
     split at h
     case h_2 => exact h.elim
     split at h
     case h_2 => exact h.elim
     exact h.2.2.elim) (fun st hst ρ' a w hs hr => ⟨fin st hst ρ' a w hs hr, fin st hst ρ' a w hs hr⟩)
    (fun v st hst ρ' v' a w' hv hs hr => ⟨hs.frame.defers, .pan v, st.hp, st.nx, ρ', hst, ⟨v', rfl, hv⟩, hs.rel.unbare, hr⟩) 1000 (.code c) [] _ h ρ _ w (start_rel rfl hrel.bare hargs fn) (.refl _ _ _)
def vcX (P : Program) (pc : PCall) (f : FuncId) (lt : List (Nat × List Nat)) (conts : List (List Value)) (args : List Value) (H : Code → List Fr → AS → Prop) (Post : Out → List (List Value) → Prop) : Prop :=
 vrunP P pc (slotsN args (fnAt P f)) lt (List.replicate conts.length true) H (finX P (fnAt P f) conts.length (xpost conts.length Post)) (panX conts.length (xpost conts.length Post)) 3000 (.code (codeOf (fnAt P f))) [] ⟨putArgs 0 args .e, hpOf conts, conts.length⟩
def vcLX (P : Program) (pc : PCall) (f : FuncId) (na : List Value) (lt : List (Nat × List Nat)) (n : Nat) (r : Nat) (st : AS) (H : Code → List Fr → AS → Prop) (Post : Out → List (List Value) → Prop) : Prop :=
 vrunP P pc (slotsN na (fnAt P f)) lt (List.replicate n true) H (finX P (fnAt P f) n (xpost n Post)) (panX n (xpost n Post)) 3000 (.code (lpC P f r)) (.loop (lpC P f r) :: lpK P f r) st
def OkX (P : Program) (f : FuncId) (na : List Value) (n : Nat) (Post : Out → List (List Value) → Prop) : Code → List Fr → AS → Prop :=
 GoodX P (slotsN na (fnAt P f)) (List.replicate n true) (finX P (fnAt P f) n (xpost n Post)) (panX n (xpost n Post))
theorem spec_X {P : Program} {pc : PCall} (hcall : PCallOk P pc) (hm : P.follows .mixedOrders = true) {f : FuncId} (hf : (P.funcs[f]?).isSome = true) (hc : (fnAt P f).body.isSome = true) (lt : List (Nat × List Nat)) {conts : List (List Value)} {args : List Value} {Post : Out → List (List Value) → Prop}
  {X : Prop} (e : vcX P pc f lt conts args (OkX P f args conts.length Post) Post = X) (h : X) : SpecX P f conts.length (hpOf conts) args (xpost conts.length Post) := by
 have hf' : P.funcs[f]? = some (fnAt P f) := by
  unfold fnAt
  cases hx : P.funcs[f]? with
  | none => rw [hx] at hf; cases hf
  | some x => rfl
 have hc' : (fnAt P f).body = some (codeOf (fnAt P f)) := by
  unfold codeOf
  cases hx : (fnAt P f).body with
  | none => rw [hx] at hc; cases hc
  | some x => rfl
 have h' := Eq.mpr e h
 unfold vcX OkX at h'
 have hl : (List.replicate conts.length true).length = conts.length := List.length_replicate ..
 have := specX_of (base := List.replicate conts.length true) (Post := xpost conts.length Post) (hp := hpOf conts) (args := args) hcall hm hf' hc' 3000 (lt := lt) (by rw [hl]; exact h')
 rw [hl] at this
 exact this
theorem ok_X {P : Program} {pc : PCall} (hcall : PCallOk P pc) (hm : P.follows .mixedOrders = true) {f : FuncId} {na : List Value} (lt : List (Nat × List Nat)) {n r : Nat} {st : AS} {Post : Out → List (List Value) → Prop}
  {X : Prop} (e : vcLX P pc f na lt n r st (OkX P f na n Post) Post = X) (h : X) : OkX P f na n Post (lpC P f r) (lpK P f r) st := goodX_round hcall hm 3000 (Eq.mpr e h)
def retP (Post : Value → Prop) (r : Out) (_ : List (List Value)) : Prop := match r with | .ret v => Post v | .pan _ => False
theorem pureX {P : Program} {f : FuncId} {args : List Value} {Post : Value → Prop} (h : SpecX P f 0 (hpOf []) args (xpost 0 (retP Post))) : Pure P f args Post := by
 intro W ρ w args' hrel hargs
 refine (h W ρ w args' (fun b hb => by omega) hrel hargs).mono ?_
 rintro e w' ⟨r, hp', nx', ρ', hP, hE, hR, hS⟩
 unfold xpost at hP
 obtain ⟨_, hv⟩ := hP
 cases r with
 | pan v => exact hv.elim
 | ret v =>
 obtain ⟨v', e1, e2⟩ := hE
 exact ⟨v, hp', nx', v', ρ', hv, e1, e2, hR, hS⟩
theorem e_crc (s : ByteArray) (H : HT) (Post : PV) : vcP Tryz.prog noCall 75 [(3, [0, 2, 7, 8])] [.string s] H Post = (T8 (True ∧ H (lpC Tryz.prog 75 3) (lpK Tryz.prog 75 3) (stV [(0, some (vs s)), (2, some (Value.int IntKind.u32 (IntKind.wrap IntKind.u32 (↑4294967295 : Int)))), (7, some (vi (↑s.size : Int))), (8, some (vi 0))] [] 0))) := by kernel_rfl
theorem l_crc (s : ByteArray) (r k : Int) (H : HT) (Post : PV) : vcLP Tryz.prog noCall 75 [.string s] [(3, [0, 2, 7, 8])] 3 (stV [(0, some (.string s)), (2, some (.int .u32 r)), (7, some (.int .i64 s.size)), (8, some (.int .i64 k))] [] 0) H Post = (let q5 := (IntKind.wrap IntKind.u32 (↑(BitVec.toNat (BitVec.ofInt 32 r ^^^ BitVec.ofInt 32 (IntKind.wrap IntKind.u32 (↑(UInt8.toNat (Array.getD (ByteArray.data s) (Int.toNat k) 0)) : Int)))) : Int)); let q2 := #[Value.agg #[Value.int IntKind.u32 0, Value.int IntKind.u32 274646895, Value.int IntKind.u32 549293790, Value.int IntKind.u32 820201905, Value.int IntKind.u32 1098587580, Value.int IntKind.u32 1361435347, Value.int IntKind.u32 1640403810, Value.int IntKind.u32 1905808397, Value.int IntKind.u32 2197175160, Value.int IntKind.u32 2460548119, Value.int IntKind.u32 2722870694, Value.int IntKind.u32 2987750089, Value.int IntKind.u32 3280807620, Value.int IntKind.u32 3553878443, Value.int IntKind.u32 3811616794, Value.int IntKind.u32 4084100981]]; let q3 := (↑(BitVec.toNat (BitVec.ofInt 32 q5 &&& BitVec.ofInt 32 15)) : Int); let q6 := 0 + Int.toNat (IntKind.wrap IntKind.u32 q3) * 1; let q1 := (IntKind.wrap IntKind.u32 (↑(BitVec.toNat (BitVec.ofInt 32 (Int.fdiv q5 (2 ^ 4)) ^^^ BitVec.ofInt 32 (toI (cellAt q2 0 q6)))) : Int)); let q4 := (↑(BitVec.toNat (BitVec.ofInt 32 q1 &&& BitVec.ofInt 32 15)) : Int); let q7 := 0 + Int.toNat (IntKind.wrap IntKind.u32 q4) * 1; True ∧ pIf (decide (k < (↑s.size : Int))) (T4 (True ∧ (0 ≤ k ∧ k < (↑s.size : Int)) ∧ T4 (toI (vi 0) ≤ 4 ∧ T2 ((0 ≤ IntKind.wrap IntKind.u32 q3 ∧ IntKind.wrap IntKind.u32 q3 < (↑16 : Int)) ∧ cellAt q2 0 q6 = Value.int IntKind.u32 (toI (cellAt q2 0 q6)) ∧ T2 (True ∧ toI (vi 0) ≤ 4 ∧ T2 ((0 ≤ IntKind.wrap IntKind.u32 q4 ∧ IntKind.wrap IntKind.u32 q4 < (↑16 : Int)) ∧ cellAt q2 0 q7 = Value.int IntKind.u32 (toI (cellAt q2 0 q7)) ∧ T4 (T2 (H (lpC Tryz.prog 75 3) (lpK Tryz.prog 75 3) (stV [(0, some (vs s)), (2, some (Value.int IntKind.u32 (IntKind.wrap IntKind.u32 (↑(BitVec.toNat (BitVec.ofInt 32 (Int.fdiv q1 (2 ^ 4)) ^^^ BitVec.ofInt 32 (toI (cellAt q2 0 q7)))) : Int)))), (7, some (vi (↑s.size : Int))), (8, some (vi (IntKind.wrap IntKind.i64 (k + 1))))] [] 0))))))))) (T4 (Post (Value.int IntKind.u32 (IntKind.wrap IntKind.u32 (↑(BitVec.toNat (BitVec.ofInt 32 (if IntKind.signed IntKind.u32 = true then -1 else IntKind.max IntKind.u32) ^^^ BitVec.ofInt 32 r)) : Int)))))) := by kernel_rfl
def halvesL : List Nat := [0, 274646895, 549293790, 820201905, 1098587580, 1361435347, 1640403810, 1905808397, 2197175160, 2460548119, 2722870694, 2987750089, 3280807620, 3553878443, 3811616794, 4084100981]
def halfC (b : BitVec 32) : BitVec 32 := (b >>> 4) ^^^ BitVec.ofNat 32 (halvesL.getD (b &&& 15#32).toNat 0)
def stepC (b : BitVec 32) (x : UInt8) : BitVec 32 := halfC (halfC (b ^^^ BitVec.ofNat 32 x.toNat))
def crcB (s : ByteArray) : BitVec 32 := ~~~ (s.data.toList.foldl stepC (BitVec.allOnes 32))
def c_crc (args : List Value) (Post : Value → Prop) : Prop := ∃ s : ByteArray, args = [.string s] ∧ s.size ≤ 4611686018427387904 ∧ Post (.int .u32 (crcB s).toNat)
theorem wU (b : BitVec 32) : IntKind.wrap .u32 ((b.toNat : Nat) : Int) = ((b.toNat : Nat) : Int) := by
 have := b.isLt
 simp [IntKind.wrap, IntKind.bits, IntKind.signed]
 omega
theorem oU (b : BitVec 32) : BitVec.ofInt 32 ((b.toNat : Nat) : Int) = b := by
 simp
theorem wX (x : UInt8) : IntKind.wrap .u32 ((x.toNat : Nat) : Int) = ((x.toNat : Nat) : Int) := by
 have := x.toNat_lt
 simp [IntKind.wrap, IntKind.bits, IntKind.signed]
 omega
theorem oX (x : UInt8) : BitVec.ofInt 32 ((x.toNat : Nat) : Int) = BitVec.ofNat 32 x.toNat := by simp
theorem fU (b : BitVec 32) : Int.fdiv ((b.toNat : Nat) : Int) (2 ^ 4) = (((b >>> 4).toNat : Nat) : Int) := by
 rw [BitVec.toNat_ushiftRight, Nat.shiftRight_eq_div_pow, Int.fdiv_eq_ediv_of_nonneg _ (by decide)]
 rfl
theorem o15 : BitVec.ofInt 32 15 = 15#32 := by decide
theorem and15 (b : BitVec 32) : (b &&& 15#32).toNat < 16 := by
 rw [BitVec.toNat_and]
 exact Nat.lt_of_le_of_lt Nat.and_le_right (by decide)
theorem cell_half : ∀ k : Nat, k < 16 → cellAt #[Value.agg #[Value.int IntKind.u32 0, Value.int IntKind.u32 274646895, Value.int IntKind.u32 549293790, Value.int IntKind.u32 820201905, Value.int IntKind.u32 1098587580, Value.int IntKind.u32 1361435347, Value.int IntKind.u32 1640403810, Value.int IntKind.u32 1905808397, Value.int IntKind.u32 2197175160, Value.int IntKind.u32 2460548119, Value.int IntKind.u32 2722870694, Value.int IntKind.u32 2987750089, Value.int IntKind.u32 3280807620, Value.int IntKind.u32 3553878443, Value.int IntKind.u32 3811616794, Value.int IntKind.u32 4084100981]] 0 (0 + k * 1) = .int .u32 ((halvesL.getD k 0 : Nat) : Int)
 | 0, _ | 1, _ | 2, _ | 3, _ | 4, _ | 5, _ | 6, _ | 7, _ | 8, _ | 9, _ | 10, _ | 11, _ | 12, _ | 13, _ | 14, _ | 15, _ => rfl
 | k + 16, h => by omega
theorem oT (k : Nat) : BitVec.ofInt 32 ((halvesL.getD k 0 : Nat) : Int) = BitVec.ofNat 32 (halvesL.getD k 0) := by simp
theorem ifC {p : Prop} [Decidable p] {X Y : Prop} (h1 : p → X) (h2 : ¬ p → Y) : pIf (decide p) X Y := pIf_intro (fun e => h1 (of_decide_eq_true e)) (fun e => h2 (of_decide_eq_false e))
theorem ok_crc : EntOk Tryz.prog ⟨75, c_crc⟩ := by
 rintro args Post ⟨s, rfl, hs, h⟩
 refine pure_P noCall_ok mixed (by kernel_rfl) (by kernel_rfl) _ (e_crc s _ _) ?_
 have e0 : IntKind.wrap IntKind.u32 4294967295 = (((BitVec.allOnes 32).toNat : Nat) : Int) := by decide
 have em : (if IntKind.signed IntKind.u32 = true then (-1 : Int) else IntKind.max IntKind.u32) = (((BitVec.allOnes 32).toNat : Nat) : Int) := by decide
 simp only [true_and]
 rw [e0]
 refine down (n := s.size) (p := fun k => OkP 75 [.string s] 3 Post (stV [(0, some (.string s)), (2, some (.int .u32 ((((s.data.toList.take k).foldl stepC (BitVec.allOnes 32)).toNat : Nat) : Int))), (7, some (.int .i64 s.size)), (8, some (.int .i64 k))] [] 0)) ?_ (fun k h1 ih => ?_)
 ·refine ok_P noCall_ok mixed _ (l_crc s _ s.size _ _) ?_
  simp only [true_and]
  refine ifC (fun h' => by omega) (fun _ => ?_)
  rw [em, oU, oU, wU, List.take_of_length_le (by rw [Array.length_toList]; exact Nat.le_refl _)]
  have : BitVec.allOnes 32 ^^^ s.data.toList.foldl stepC (BitVec.allOnes 32) = crcB s := by
   unfold crcB
   rw [BitVec.not_def]
  rw [this]
  exact h
 ·refine ok_P noCall_ok mixed _ (l_crc s _ k _ _) ?_
  have hk : ((k : Nat) : Int).toNat = k := Int.toNat_natCast k
  have hx : s.data.toList[k]? = some (s.data.getD k 0) := by
   have : k < s.data.size := h1
   rw [Array.getElem?_toList, Array.getD_eq_getD_getElem?, Array.getElem?_eq_getElem this]
   rfl
  have ht : s.data.toList.take (k + 1) = s.data.toList.take k ++ [s.data.getD k 0] := by
   rw [List.take_add_one, hx]
   rfl
  have hlt : ∀ b : BitVec 32, (0 : Int) ≤ (((b &&& 15#32).toNat : Nat) : Int) ∧ (((b &&& 15#32).toNat : Nat) : Int) < 16 := fun b => ⟨by omega, by have := and15 b; omega⟩
  rw [ht, List.foldl_append] at ih
  simp only [true_and, and_true, hk, wU, oU, wX, oX, fU, o15, Int.toNat_natCast, cell_half _ (and15 _), toI_int, oT, hlt, wrapSucc (show k < 2 ^ 62 by omega)]
  exact ifC (fun _ => ⟨⟨by omega, by omega⟩, by decide, by decide, ih⟩) (fun h' => by omega)
abbrev trY (l : List ByteArray) : Value := tree 1 l.length (encL l)
structure FirstY {α : Type} (l : List α) (p : α → Prop) (i : Int) : Prop where
 no : i < 0 → ∀ a ∈ l, ¬ p a
 yes : 0 ≤ i → ∃ k, ∃ hk : k < l.length, i = (k : Int) ∧ p l[k] ∧ ∀ j (hj : j < l.length), j < k → ¬ p l[j]
abbrev fnPc : Value := .func (.func 58) #[] #[.pointer (some ⟨0, 0, none⟩)]
abbrev fnWd : Value := .func (.func 61) #[] #[.pointer (some ⟨0, 0, none⟩)]
abbrev fnRs : Value := .func (.func 36) #[] #[.pointer (some ⟨0, 0, none⟩)]
def c_idxPc (args : List Value) (conts : List (List Value)) (Post : Out → List (List Value) → Prop) : Prop := ∃ (l : List Piece6) (s : ByteArray), args = [tree 6 l.length (encL l), fnPc] ∧ conts = [[.string s]] ∧ Short l ∧ ∀ i : Int, FirstY l (fun g => g.part = s) i → Post (.ret (.int .i64 i)) [[.string s]]
def c_idxWd (args : List Value) (conts : List (List Value)) (Post : Out → List (List Value) → Prop) : Prop := ∃ (l : List Weld8) (s : ByteArray), args = [tree 8 l.length (encL l), fnWd] ∧ conts = [[.string s]] ∧ Short l ∧ ∀ i : Int, FirstY l (fun g => g.seam = s) i → Post (.ret (.int .i64 i)) [[.string s]]
def c_idxRs (args : List Value) (conts : List (List Value)) (Post : Out → List (List Value) → Prop) : Prop := ∃ (l : List Raised3) (s : ByteArray), args = [tree 3 l.length (encL l), fnRs] ∧ conts = [[.string s]] ∧ Short l ∧ ∀ i : Int, FirstY l (fun g => g.block = s) i → Post (.ret (.int .i64 i)) [[.string s]]
def callIc : PCall := inlP Tryz.prog [58, 61, 36] (ofV noCall) 2
theorem e_idxPc (n : Nat) (s : ByteArray) (A : Array Value) (H : HT) (Post : PX) : vcX Tryz.prog callIc 113 [(2, [0, 1, 7, 8])] [[.string s]] [tree 6 n A, fnPc] H Post = (T4 (True ∧ (True ∧ True) ∧ H (lpC Tryz.prog 113 2) (lpK Tryz.prog 113 2) (stV [(0, some (tree 6 n A)), (1, some (Value.func (Fn.func 58) #[] #[pt 0])), (7, some (vi (↑n : Int))), (8, some (vi 0))] [(0, some (AObj.cells [vs s] true))] 1))) := by kernel_rfl
theorem l_idxPc (n : Nat) (s : ByteArray) (k : Int) (A : Array Value) (H : HT) (Post : PX) : vcLX Tryz.prog callIc 113 [tree 6 n A, fnPc] [(2, [0, 1, 7, 8])] 1 2 (stV [(0, some (tree 6 n A)), (1, some fnPc), (7, some (.int .i64 n)), (8, some (.int .i64 k))] [(0, some (.cells [.string s] true))] 1) H Post = (let q1 := ((True ∧ True) ∧ True) ∧ True; True ∧ pIf (decide (k < (↑n : Int))) (T4 (True ∧ (0 ≤ k ∧ k < (↑n : Int)) ∧ (cellAt A (Int.toNat k) 0 = vs (toS (cellAt A (Int.toNat k) 0)) ∧ cellAt A (Int.toNat k) 1 = vi (toI (cellAt A (Int.toNat k) 1)) ∧ cellAt A (Int.toNat k) 2 = vs (toS (cellAt A (Int.toNat k) 2)) ∧ cellAt A (Int.toNat k) 3 = vs (toS (cellAt A (Int.toNat k) 3)) ∧ cellAt A (Int.toNat k) 4 = vi (toI (cellAt A (Int.toNat k) 4)) ∧ cellAt A (Int.toNat k) 5 = vi (toI (cellAt A (Int.toNat k) 5)) ∧ True) ∧ T4 (T2 (pIf (decide (toS (cellAt A (Int.toNat k) 0) = s)) (T2 (True ∧ q1 ∧ true = true ∧ Post (Out.ret (vi k)) [[vs s]])) (T4 ((True ∧ True) ∧ H (lpC Tryz.prog 113 2) (lpK Tryz.prog 113 2) (stV [(0, some (tree 6 n A)), (1, some (Value.func (Fn.func 58) #[] #[pt 0])), (7, some (vi (↑n : Int))), (8, some (vi (IntKind.wrap IntKind.i64 (k + 1))))] [(0, some (AObj.cells [vs s] true))] 1))))))) (True ∧ q1 ∧ true = true ∧ Post (Out.ret (vi (-1))) [[vs s]])) := by kernel_rfl
theorem e_idxWd (n : Nat) (s : ByteArray) (A : Array Value) (H : HT) (Post : PX) : vcX Tryz.prog callIc 114 [(2, [0, 1, 7, 8])] [[.string s]] [tree 8 n A, fnWd] H Post = (T4 (True ∧ (True ∧ True) ∧ H (lpC Tryz.prog 114 2) (lpK Tryz.prog 114 2) (stV [(0, some (tree 8 n A)), (1, some (Value.func (Fn.func 61) #[] #[pt 0])), (7, some (vi (↑n : Int))), (8, some (vi 0))] [(0, some (AObj.cells [vs s] true))] 1))) := by kernel_rfl
theorem l_idxWd (n : Nat) (s : ByteArray) (k : Int) (A : Array Value) (H : HT) (Post : PX) : vcLX Tryz.prog callIc 114 [tree 8 n A, fnWd] [(2, [0, 1, 7, 8])] 1 2 (stV [(0, some (tree 8 n A)), (1, some fnWd), (7, some (.int .i64 n)), (8, some (.int .i64 k))] [(0, some (.cells [.string s] true))] 1) H Post = (let q1 := ((True ∧ True) ∧ True) ∧ True; True ∧ pIf (decide (k < (↑n : Int))) (T4 (True ∧ (0 ≤ k ∧ k < (↑n : Int)) ∧ (cellAt A (Int.toNat k) 0 = vs (toS (cellAt A (Int.toNat k) 0)) ∧ cellAt A (Int.toNat k) 1 = vi (toI (cellAt A (Int.toNat k) 1)) ∧ cellAt A (Int.toNat k) 2 = vi (toI (cellAt A (Int.toNat k) 2)) ∧ cellAt A (Int.toNat k) 3 = vs (toS (cellAt A (Int.toNat k) 3)) ∧ cellAt A (Int.toNat k) 4 = vs (toS (cellAt A (Int.toNat k) 4)) ∧ cellAt A (Int.toNat k) 5 = vi (toI (cellAt A (Int.toNat k) 5)) ∧ cellAt A (Int.toNat k) 6 = vi (toI (cellAt A (Int.toNat k) 6)) ∧ cellAt A (Int.toNat k) 7 = tree 1 (toN (cellAt A (Int.toNat k) 7)) (toE (cellAt A (Int.toNat k) 7)) ∧ True) ∧ T4 (T2 (pIf (decide (toS (cellAt A (Int.toNat k) 0) = s)) (T2 (True ∧ q1 ∧ true = true ∧ Post (Out.ret (vi k)) [[vs s]])) (T4 ((True ∧ True) ∧ H (lpC Tryz.prog 114 2) (lpK Tryz.prog 114 2) (stV [(0, some (tree 8 n A)), (1, some (Value.func (Fn.func 61) #[] #[pt 0])), (7, some (vi (↑n : Int))), (8, some (vi (IntKind.wrap IntKind.i64 (k + 1))))] [(0, some (AObj.cells [vs s] true))] 1))))))) (True ∧ q1 ∧ true = true ∧ Post (Out.ret (vi (-1))) [[vs s]])) := by kernel_rfl
theorem e_idxRs (n : Nat) (s : ByteArray) (A : Array Value) (H : HT) (Post : PX) : vcX Tryz.prog callIc 63 [(2, [0, 1, 7, 8])] [[.string s]] [tree 3 n A, fnRs] H Post = (T4 (True ∧ (True ∧ True) ∧ H (lpC Tryz.prog 63 2) (lpK Tryz.prog 63 2) (stV [(0, some (tree 3 n A)), (1, some (Value.func (Fn.func 36) #[] #[pt 0])), (7, some (vi (↑n : Int))), (8, some (vi 0))] [(0, some (AObj.cells [vs s] true))] 1))) := by kernel_rfl
theorem l_idxRs (n : Nat) (s : ByteArray) (k : Int) (A : Array Value) (H : HT) (Post : PX) : vcLX Tryz.prog callIc 63 [tree 3 n A, fnRs] [(2, [0, 1, 7, 8])] 1 2 (stV [(0, some (tree 3 n A)), (1, some fnRs), (7, some (.int .i64 n)), (8, some (.int .i64 k))] [(0, some (.cells [.string s] true))] 1) H Post = (let q1 := ((True ∧ True) ∧ True) ∧ True; True ∧ pIf (decide (k < (↑n : Int))) (T4 (True ∧ (0 ≤ k ∧ k < (↑n : Int)) ∧ (cellAt A (Int.toNat k) 0 = vs (toS (cellAt A (Int.toNat k) 0)) ∧ cellAt A (Int.toNat k) 1 = vi (toI (cellAt A (Int.toNat k) 1)) ∧ cellAt A (Int.toNat k) 2 = tree 4 (toN (cellAt A (Int.toNat k) 2)) (toE (cellAt A (Int.toNat k) 2)) ∧ True) ∧ T4 (T2 (pIf (decide (toS (cellAt A (Int.toNat k) 0) = s)) (T2 (True ∧ q1 ∧ true = true ∧ Post (Out.ret (vi k)) [[vs s]])) (T4 ((True ∧ True) ∧ H (lpC Tryz.prog 63 2) (lpK Tryz.prog 63 2) (stV [(0, some (tree 3 n A)), (1, some (Value.func (Fn.func 36) #[] #[pt 0])), (7, some (vi (↑n : Int))), (8, some (vi (IntKind.wrap IntKind.i64 (k + 1))))] [(0, some (AObj.cells [vs s] true))] 1))))))) (True ∧ q1 ∧ true = true ∧ Post (Out.ret (vi (-1))) [[vs s]])) := by kernel_rfl
def c_piece (args : List Value) (Post : Value → Prop) : Prop := ∃ (s : StateD) (id : ByteArray), args = [stateDV s, .string id] ∧ s.pieces.length ≤ 1048576 ∧ (∀ x, pieceAt s id = some x → Post (.tuple #[piece6V x, .bool true])) ∧ (pieceAt s id = none → Post (.tuple #[piece6V piece0, .bool false]))
def c_weld (args : List Value) (Post : Value → Prop) : Prop := ∃ (s : StateD) (id : ByteArray), args = [stateDV s, .string id] ∧ s.welds.length ≤ 1048576 ∧ (∀ x ∈ s.welds, x.passed.length ≤ 1048576) ∧ (∀ x, weldAt s id = some x → Post (.tuple #[weld8V x, .bool true])) ∧ (weldAt s id = none → Post (.tuple #[.agg #[.string ⟨#[]⟩, .int .i64 0, .int .i64 0, .string ⟨#[]⟩, .string ⟨#[]⟩, .int .i64 0, .int .i64 0, tree 1 0 #[]], .bool false]))
def callPo : PCall := inlP Tryz.prog [57, 60] (xtabCall [⟨113, c_idxPc⟩, ⟨114, c_idxWd⟩] (ofV noCall)) 2
theorem e_piece (s : StateD) (id : ByteArray) (H : HT) (Post : PX) : vcX Tryz.prog callPo 23 [] [] [stateDV s, .string id] H Post = (let q3 := List.length (StateD.pieces s); let q2 := True ∧ (T4 (T2 (True))) ∧ True ∧ True; let q1 := encL (StateD.pieces s); T8 (T2 (True ∧ ∃ (l : List Piece6), ∃ (s_1 : ByteArray), eqL [tree 6 q3 q1, Value.func (Fn.func 58) #[] #[pt 0]] [tree 6 l.length (encL l), Value.func (Fn.func 58) #[] #[pt 0]] ∧ [[vs id]] = [[vs s_1]] ∧ Short l ∧ ∀ (i : Int), FirstY l (fun (g : Piece6) => Piece6.part g = s_1) i → 1 = 1 ∧ T2 (True ∧ pIf (decide (i ≥ 0)) (T2 ((0 ≤ i ∧ i < (↑q3 : Int)) ∧ (cellAt q1 (Int.toNat i) 0 = vs (toS (cellAt q1 (Int.toNat i) 0)) ∧ cellAt q1 (Int.toNat i) 1 = vi (toI (cellAt q1 (Int.toNat i) 1)) ∧ cellAt q1 (Int.toNat i) 2 = vs (toS (cellAt q1 (Int.toNat i) 2)) ∧ cellAt q1 (Int.toNat i) 3 = vs (toS (cellAt q1 (Int.toNat i) 3)) ∧ cellAt q1 (Int.toNat i) 4 = vi (toI (cellAt q1 (Int.toNat i) 4)) ∧ cellAt q1 (Int.toNat i) 5 = vi (toI (cellAt q1 (Int.toNat i) 5)) ∧ True) ∧ 6 ≤ 6 ∧ T2 (True ∧ 6 ≤ 6 ∧ True ∧ q2 ∧ true = true ∧ Post (Out.ret (Value.tuple #[Value.agg #[vs (toS (cellAt q1 (Int.toNat i) 0)), vi (toI (cellAt q1 (Int.toNat i) 1)), vs (toS (cellAt q1 (Int.toNat i) 2)), vs (toS (cellAt q1 (Int.toNat i) 3)), vi (toI (cellAt q1 (Int.toNat i) 4)), vi (toI (cellAt q1 (Int.toNat i) 5))], vb true])) []))) (T2 (6 ≤ 6 ∧ T2 (True ∧ 6 ≤ 6 ∧ True ∧ q2 ∧ true = true ∧ Post (Out.ret (Value.tuple #[Value.agg #[vz, vi 0, vz, vz, vi 0, vi 0], vb false])) []))))))) := by kernel_rfl
theorem e_weld (s : StateD) (id : ByteArray) (H : HT) (Post : PX) : vcX Tryz.prog callPo 29 [] [] [stateDV s, .string id] H Post = (let q2 := True ∧ (T8 (True)) ∧ True ∧ True; let q1 := encL (StateD.welds s); T8 (T2 (True ∧ ∃ (l : List Weld8), ∃ (s_1 : ByteArray), eqL [tree 8 (List.length (StateD.welds s)) q1, Value.func (Fn.func 61) #[] #[pt 0]] [tree 8 l.length (encL l), Value.func (Fn.func 61) #[] #[pt 0]] ∧ [[vs id]] = [[vs s_1]] ∧ Short l ∧ ∀ (i : Int), FirstY l (fun (g : Weld8) => Weld8.seam g = s_1) i → 1 = 1 ∧ T2 (True ∧ pIf (decide (i ≥ 0)) (T2 ((0 ≤ i ∧ i < (↑(List.length (StateD.welds s)) : Int)) ∧ (cellAt q1 (Int.toNat i) 0 = vs (toS (cellAt q1 (Int.toNat i) 0)) ∧ cellAt q1 (Int.toNat i) 1 = vi (toI (cellAt q1 (Int.toNat i) 1)) ∧ cellAt q1 (Int.toNat i) 2 = vi (toI (cellAt q1 (Int.toNat i) 2)) ∧ cellAt q1 (Int.toNat i) 3 = vs (toS (cellAt q1 (Int.toNat i) 3)) ∧ cellAt q1 (Int.toNat i) 4 = vs (toS (cellAt q1 (Int.toNat i) 4)) ∧ cellAt q1 (Int.toNat i) 5 = vi (toI (cellAt q1 (Int.toNat i) 5)) ∧ cellAt q1 (Int.toNat i) 6 = vi (toI (cellAt q1 (Int.toNat i) 6)) ∧ cellAt q1 (Int.toNat i) 7 = tree 1 (toN (cellAt q1 (Int.toNat i) 7)) (toE (cellAt q1 (Int.toNat i) 7)) ∧ True) ∧ 8 ≤ 8 ∧ T2 (True ∧ 8 ≤ 8 ∧ True ∧ q2 ∧ true = true ∧ Post (Out.ret (Value.tuple #[Value.agg #[vs (toS (cellAt q1 (Int.toNat i) 0)), vi (toI (cellAt q1 (Int.toNat i) 1)), vi (toI (cellAt q1 (Int.toNat i) 2)), vs (toS (cellAt q1 (Int.toNat i) 3)), vs (toS (cellAt q1 (Int.toNat i) 4)), vi (toI (cellAt q1 (Int.toNat i) 5)), vi (toI (cellAt q1 (Int.toNat i) 6)), tree 1 (toN (cellAt q1 (Int.toNat i) 7)) (toE (cellAt q1 (Int.toNat i) 7))], vb true])) []))) (T2 (8 ≤ 8 ∧ T2 (True ∧ 8 ≤ 8 ∧ True ∧ q2 ∧ true = true ∧ Post (Out.ret (Value.tuple #[Value.agg #[vz, vi 0, vi 0, vz, vz, vi 0, vi 0, tree 1 0 #[]], vb false])) []))))))) := by kernel_rfl
theorem e_rpiece (s : StateD) (id : ByteArray) (H : HT) (Post : PV) : vcP Tryz.prog noCall 27 [(2, [1, 2, 4, 6])] [stateDV s, .string id] H Post = (let q2 := StateD.stock s; let q1 := StateD.design s; T4 (True ∧ (T2 (True)) ∧ H (lpC Tryz.prog 27 2) (lpK Tryz.prog 27 2) (stV [(1, some (vs id)), (2, some (pt 0)), (4, some (pt 1)), (6, some (vi 0))] [(0, some (AObj.cells [vi (StateD.now s), vs (Design6.hull q1), tree 3 (List.length (Design6.nodes q1)) (encL (Design6.nodes q1)), tree 18 (List.length (Design6.parts q1)) (encL (Design6.parts q1)), tree 6 (List.length (Design6.seams q1)) (encL (Design6.seams q1)), tree 5 (List.length (Design6.packs q1)) (encL (Design6.packs q1)), tree 3 (List.length (Design6.needs q1)) (encL (Design6.needs q1)), tree 1 (List.length (StateD.orders s)) (encL (StateD.orders s)), tree 6 (List.length (Stock2.sheets q2)) (encL (Stock2.sheets q2)), tree 5 (List.length (Stock2.bars q2)) (encL (Stock2.bars q2)), tree 6 (List.length (StateD.pieces s)) (encL (StateD.pieces s)), tree 6 (List.length (StateD.scrap s)) (encL (StateD.scrap s)), tree 8 (List.length (StateD.welds s)) (encL (StateD.welds s)), tree 1 (List.length (StateD.done s)) (encL (StateD.done s)), tree 8 (List.length (StateD.weighs s)) (encL (StateD.weighs s)), tree 3 (List.length (StateD.raised s)) (encL (StateD.raised s)), tree 4 (List.length (StateD.permits s)) (encL (StateD.permits s)), tree 3 (List.length (StateD.tests s)) (encL (StateD.tests s)), vi (StateD.launched s), vi (StateD.delivered s)] true)), (1, some (AObj.cells [vz, vi 0, vz, vz, vi 0, vi 0] true))] 2))) := by kernel_rfl
theorem l_rpiece (s : StateD) (id : ByteArray) (k : Int) (H : HT) (Post : PV) : vcLP Tryz.prog noCall 27 [stateDV s, .string id] [(2, [1, 2, 4, 6])] 2 (stV [(1, some (.string id)), (2, some (.pointer (some ⟨0, 0, none⟩))), (4, some (.pointer (some ⟨1, 0, none⟩))), (6, some (.int .i64 k))] [(0, some (.cells (stateDC s) true)), (1, some (.cells [.string ⟨#[]⟩, .int .i64 0, .string ⟨#[]⟩, .string ⟨#[]⟩, .int .i64 0, .int .i64 0] true))] 2) H Post = (let q11 := (T4 (T2 (True))) ∧ True ∧ True; let q1 := encL (StateD.pieces s); let q10 := toI (cellAt q1 (Int.toNat k) 5); let q9 := toI (cellAt q1 (Int.toNat k) 4); let q8 := toS (cellAt q1 (Int.toNat k) 3); let q7 := toS (cellAt q1 (Int.toNat k) 2); let q6 := toI (cellAt q1 (Int.toNat k) 1); let q5 := StateD.stock s; let q4 := cellAt q1 (Int.toNat k) 0; let q3 := List.length (StateD.pieces s); let q2 := StateD.design s; T4 (True ∧ pIf (decide (k < (↑q3 : Int))) (T2 (True ∧ (0 ≤ k ∧ k < (↑q3 : Int)) ∧ True ∧ cellAt q1 (Int.toNat k) 0 = vs (toS q4) ∧ T2 (pIf (decide (toS q4 = id)) (T2 (True ∧ (0 ≤ k ∧ k < (↑q3 : Int)) ∧ (cellAt q1 (Int.toNat k) 0 = vs (toS q4) ∧ cellAt q1 (Int.toNat k) 1 = vi q6 ∧ cellAt q1 (Int.toNat k) 2 = vs q7 ∧ cellAt q1 (Int.toNat k) 3 = vs q8 ∧ cellAt q1 (Int.toNat k) 4 = vi q9 ∧ cellAt q1 (Int.toNat k) 5 = vi q10 ∧ True) ∧ 6 ≤ 6 ∧ True ∧ q11 ∧ Post (Value.tuple #[Value.agg #[vs (toS q4), vi q6, vs q7, vs q8, vi q9, vi q10], vb true]))) (T4 ((T2 (True)) ∧ H (lpC Tryz.prog 27 2) (lpK Tryz.prog 27 2) (stV [(1, some (vs id)), (2, some (pt 0)), (4, some (pt 1)), (6, some (vi (IntKind.wrap IntKind.i64 (k + 1))))] [(0, some (AObj.cells [vi (StateD.now s), vs (Design6.hull q2), tree 3 (List.length (Design6.nodes q2)) (encL (Design6.nodes q2)), tree 18 (List.length (Design6.parts q2)) (encL (Design6.parts q2)), tree 6 (List.length (Design6.seams q2)) (encL (Design6.seams q2)), tree 5 (List.length (Design6.packs q2)) (encL (Design6.packs q2)), tree 3 (List.length (Design6.needs q2)) (encL (Design6.needs q2)), tree 1 (List.length (StateD.orders s)) (encL (StateD.orders s)), tree 6 (List.length (Stock2.sheets q5)) (encL (Stock2.sheets q5)), tree 5 (List.length (Stock2.bars q5)) (encL (Stock2.bars q5)), tree 6 q3 q1, tree 6 (List.length (StateD.scrap s)) (encL (StateD.scrap s)), tree 8 (List.length (StateD.welds s)) (encL (StateD.welds s)), tree 1 (List.length (StateD.done s)) (encL (StateD.done s)), tree 8 (List.length (StateD.weighs s)) (encL (StateD.weighs s)), tree 3 (List.length (StateD.raised s)) (encL (StateD.raised s)), tree 4 (List.length (StateD.permits s)) (encL (StateD.permits s)), tree 3 (List.length (StateD.tests s)) (encL (StateD.tests s)), vi (StateD.launched s), vi (StateD.delivered s)] true)), (1, some (AObj.cells [vz, vi 0, vz, vz, vi 0, vi 0] true))] 2)))))) (True ∧ 6 ≤ 6 ∧ True ∧ q11 ∧ Post (Value.tuple #[Value.agg #[vz, vi 0, vz, vz, vi 0, vi 0], vb false])))) := by kernel_rfl
theorem e_rweld (s : StateD) (id : ByteArray) (H : HT) (Post : PV) : vcP Tryz.prog noCall 30 [(2, [1, 2, 4, 6])] [stateDV s, .string id] H Post = (let q2 := StateD.stock s; let q1 := StateD.design s; T4 (True ∧ (T2 (True)) ∧ H (lpC Tryz.prog 30 2) (lpK Tryz.prog 30 2) (stV [(1, some (vs id)), (2, some (pt 0)), (4, some (pt 1)), (6, some (vi 0))] [(0, some (AObj.cells [vi (StateD.now s), vs (Design6.hull q1), tree 3 (List.length (Design6.nodes q1)) (encL (Design6.nodes q1)), tree 18 (List.length (Design6.parts q1)) (encL (Design6.parts q1)), tree 6 (List.length (Design6.seams q1)) (encL (Design6.seams q1)), tree 5 (List.length (Design6.packs q1)) (encL (Design6.packs q1)), tree 3 (List.length (Design6.needs q1)) (encL (Design6.needs q1)), tree 1 (List.length (StateD.orders s)) (encL (StateD.orders s)), tree 6 (List.length (Stock2.sheets q2)) (encL (Stock2.sheets q2)), tree 5 (List.length (Stock2.bars q2)) (encL (Stock2.bars q2)), tree 6 (List.length (StateD.pieces s)) (encL (StateD.pieces s)), tree 6 (List.length (StateD.scrap s)) (encL (StateD.scrap s)), tree 8 (List.length (StateD.welds s)) (encL (StateD.welds s)), tree 1 (List.length (StateD.done s)) (encL (StateD.done s)), tree 8 (List.length (StateD.weighs s)) (encL (StateD.weighs s)), tree 3 (List.length (StateD.raised s)) (encL (StateD.raised s)), tree 4 (List.length (StateD.permits s)) (encL (StateD.permits s)), tree 3 (List.length (StateD.tests s)) (encL (StateD.tests s)), vi (StateD.launched s), vi (StateD.delivered s)] true)), (1, some (AObj.cells [vz, vi 0, vi 0, vz, vz, vi 0, vi 0, nS] true))] 2))) := by kernel_rfl
theorem l_rweld (s : StateD) (id : ByteArray) (k : Int) (H : HT) (Post : PV) : vcLP Tryz.prog noCall 30 [stateDV s, .string id] [(2, [1, 2, 4, 6])] 2 (stV [(1, some (.string id)), (2, some (.pointer (some ⟨0, 0, none⟩))), (4, some (.pointer (some ⟨1, 0, none⟩))), (6, some (.int .i64 k))] [(0, some (.cells (stateDC s) true)), (1, some (.cells [.string ⟨#[]⟩, .int .i64 0, .int .i64 0, .string ⟨#[]⟩, .string ⟨#[]⟩, .int .i64 0, .int .i64 0, .slice none 0 0] true))] 2) H Post = (let q1 := encL (StateD.welds s); let q12 := toI (cellAt q1 (Int.toNat k) 6); let q11 := toI (cellAt q1 (Int.toNat k) 5); let q10 := toS (cellAt q1 (Int.toNat k) 4); let q9 := toS (cellAt q1 (Int.toNat k) 3); let q8 := toI (cellAt q1 (Int.toNat k) 2); let q7 := toI (cellAt q1 (Int.toNat k) 1); let q6 := StateD.stock s; let q5 := cellAt q1 (Int.toNat k) 7; let q4 := cellAt q1 (Int.toNat k) 0; let q3 := List.length (StateD.welds s); let q2 := StateD.design s; T4 (True ∧ pIf (decide (k < (↑q3 : Int))) (T2 (True ∧ (0 ≤ k ∧ k < (↑q3 : Int)) ∧ True ∧ cellAt q1 (Int.toNat k) 0 = vs (toS q4) ∧ T2 (pIf (decide (toS q4 = id)) (T2 (True ∧ (0 ≤ k ∧ k < (↑q3 : Int)) ∧ (cellAt q1 (Int.toNat k) 0 = vs (toS q4) ∧ cellAt q1 (Int.toNat k) 1 = vi q7 ∧ cellAt q1 (Int.toNat k) 2 = vi q8 ∧ cellAt q1 (Int.toNat k) 3 = vs q9 ∧ cellAt q1 (Int.toNat k) 4 = vs q10 ∧ cellAt q1 (Int.toNat k) 5 = vi q11 ∧ cellAt q1 (Int.toNat k) 6 = vi q12 ∧ cellAt q1 (Int.toNat k) 7 = tree 1 (toN q5) (toE q5) ∧ True) ∧ 8 ≤ 8 ∧ True ∧ ((T8 (True)) ∧ True ∧ True) ∧ Post (Value.tuple #[Value.agg #[vs (toS q4), vi q7, vi q8, vs q9, vs q10, vi q11, vi q12, tree 1 (toN q5) (toE q5)], vb true]))) (T4 ((T2 (True)) ∧ H (lpC Tryz.prog 30 2) (lpK Tryz.prog 30 2) (stV [(1, some (vs id)), (2, some (pt 0)), (4, some (pt 1)), (6, some (vi (IntKind.wrap IntKind.i64 (k + 1))))] [(0, some (AObj.cells [vi (StateD.now s), vs (Design6.hull q2), tree 3 (List.length (Design6.nodes q2)) (encL (Design6.nodes q2)), tree 18 (List.length (Design6.parts q2)) (encL (Design6.parts q2)), tree 6 (List.length (Design6.seams q2)) (encL (Design6.seams q2)), tree 5 (List.length (Design6.packs q2)) (encL (Design6.packs q2)), tree 3 (List.length (Design6.needs q2)) (encL (Design6.needs q2)), tree 1 (List.length (StateD.orders s)) (encL (StateD.orders s)), tree 6 (List.length (Stock2.sheets q6)) (encL (Stock2.sheets q6)), tree 5 (List.length (Stock2.bars q6)) (encL (Stock2.bars q6)), tree 6 (List.length (StateD.pieces s)) (encL (StateD.pieces s)), tree 6 (List.length (StateD.scrap s)) (encL (StateD.scrap s)), tree 8 q3 q1, tree 1 (List.length (StateD.done s)) (encL (StateD.done s)), tree 8 (List.length (StateD.weighs s)) (encL (StateD.weighs s)), tree 3 (List.length (StateD.raised s)) (encL (StateD.raised s)), tree 4 (List.length (StateD.permits s)) (encL (StateD.permits s)), tree 3 (List.length (StateD.tests s)) (encL (StateD.tests s)), vi (StateD.launched s), vi (StateD.delivered s)] true)), (1, some (AObj.cells [vz, vi 0, vi 0, vz, vz, vi 0, vi 0, nS] true))] 2)))))) (True ∧ 8 ≤ 8 ∧ True ∧ ((T8 (True)) ∧ True ∧ True) ∧ Post (Value.tuple #[Value.agg #[vz, vi 0, vi 0, vz, vz, vi 0, vi 0, tree 1 0 #[]], vb false])))) := by kernel_rfl
theorem e_rraised (s : StateD) (id : ByteArray) (H : HT) (Post : PV) : vcP Tryz.prog noCall 39 [(2, [1, 2, 5])] [stateDV s, .string id] H Post = (let q2 := StateD.stock s; let q1 := StateD.design s; T4 ((True ∧ True) ∧ H (lpC Tryz.prog 39 2) (lpK Tryz.prog 39 2) (stV [(1, some (vs id)), (2, some (pt 0)), (5, some (vi 0))] [(0, some (AObj.cells [vi (StateD.now s), vs (Design6.hull q1), tree 3 (List.length (Design6.nodes q1)) (encL (Design6.nodes q1)), tree 18 (List.length (Design6.parts q1)) (encL (Design6.parts q1)), tree 6 (List.length (Design6.seams q1)) (encL (Design6.seams q1)), tree 5 (List.length (Design6.packs q1)) (encL (Design6.packs q1)), tree 3 (List.length (Design6.needs q1)) (encL (Design6.needs q1)), tree 1 (List.length (StateD.orders s)) (encL (StateD.orders s)), tree 6 (List.length (Stock2.sheets q2)) (encL (Stock2.sheets q2)), tree 5 (List.length (Stock2.bars q2)) (encL (Stock2.bars q2)), tree 6 (List.length (StateD.pieces s)) (encL (StateD.pieces s)), tree 6 (List.length (StateD.scrap s)) (encL (StateD.scrap s)), tree 8 (List.length (StateD.welds s)) (encL (StateD.welds s)), tree 1 (List.length (StateD.done s)) (encL (StateD.done s)), tree 8 (List.length (StateD.weighs s)) (encL (StateD.weighs s)), tree 3 (List.length (StateD.raised s)) (encL (StateD.raised s)), tree 4 (List.length (StateD.permits s)) (encL (StateD.permits s)), tree 3 (List.length (StateD.tests s)) (encL (StateD.tests s)), vi (StateD.launched s), vi (StateD.delivered s)] true))] 1))) := by kernel_rfl
theorem l_rraised (s : StateD) (id : ByteArray) (k : Int) (H : HT) (Post : PV) : vcLP Tryz.prog noCall 39 [stateDV s, .string id] [(2, [1, 2, 5])] 2 (stV [(1, some (.string id)), (2, some (.pointer (some ⟨0, 0, none⟩))), (5, some (.int .i64 k))] [(0, some (.cells (stateDC s) true))] 1) H Post = (let q2 := StateD.raised s; let q4 := cellAt (encL q2) (Int.toNat k) 0; let q3 := StateD.stock s; let q1 := StateD.design s; T4 (True ∧ pIf (decide (k < (↑(List.length q2) : Int))) (T2 (True ∧ (0 ≤ k ∧ k < (↑(List.length q2) : Int)) ∧ True ∧ cellAt (encL q2) (Int.toNat k) 0 = vs (toS q4) ∧ T2 (pIf (decide (toS q4 = id)) (T2 (Post (vb true))) (T4 ((True ∧ True) ∧ H (lpC Tryz.prog 39 2) (lpK Tryz.prog 39 2) (stV [(1, some (vs id)), (2, some (pt 0)), (5, some (vi (IntKind.wrap IntKind.i64 (k + 1))))] [(0, some (AObj.cells [vi (StateD.now s), vs (Design6.hull q1), tree 3 (List.length (Design6.nodes q1)) (encL (Design6.nodes q1)), tree 18 (List.length (Design6.parts q1)) (encL (Design6.parts q1)), tree 6 (List.length (Design6.seams q1)) (encL (Design6.seams q1)), tree 5 (List.length (Design6.packs q1)) (encL (Design6.packs q1)), tree 3 (List.length (Design6.needs q1)) (encL (Design6.needs q1)), tree 1 (List.length (StateD.orders s)) (encL (StateD.orders s)), tree 6 (List.length (Stock2.sheets q3)) (encL (Stock2.sheets q3)), tree 5 (List.length (Stock2.bars q3)) (encL (Stock2.bars q3)), tree 6 (List.length (StateD.pieces s)) (encL (StateD.pieces s)), tree 6 (List.length (StateD.scrap s)) (encL (StateD.scrap s)), tree 8 (List.length (StateD.welds s)) (encL (StateD.welds s)), tree 1 (List.length (StateD.done s)) (encL (StateD.done s)), tree 8 (List.length (StateD.weighs s)) (encL (StateD.weighs s)), tree 3 (List.length q2) (encL q2), tree 4 (List.length (StateD.permits s)) (encL (StateD.permits s)), tree 3 (List.length (StateD.tests s)) (encL (StateD.tests s)), vi (StateD.launched s), vi (StateD.delivered s)] true))] 1)))))) (T2 (Post (vb false))))) := by kernel_rfl
end Go.Proofs.YtojlhapbngcjkaaGreatDoor
