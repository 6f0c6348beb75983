/-
  NARROWER THAN 'FOR EVERY INPUT', by the rows' own cells (each row's printed sentence says how): WeightSums: laid · WeightCentres: laid · WeightScales: laid · WeightOrder: laid · WeightBetween: laid.
  DERIVED. THE GIVEN ROWS OF THIS SEAT. 5 by the template 'for every input the law returns true; each argument reads behind the call as it read before'; 0 by the template 'total and deterministic' (their statements: YtfgeocpooimojaaDoorTotals.lean).
  GIVEN WITH THE SEED: the statements are not yours to turn. If you find one false, say at which input.
  Laid BY PROGRAM, IN A SANDBOX (cutbox-rows.mjs): the forced cells as the released guide's own fill.sh prints them over the translation a7cbc304b376330a… (all of the seat's roots in one cut). By AI agents, Wed Nov 11 2026. No macro, syntax, notation, axiom, sorry.
-/
import Derived.Test.YtfgeocpooimojaaDoorChecked
import GoSem.Claim
import GoSem.ClaimJoined
import GoSem.ClaimMapViews
import Derived.JoinedTies
import Derived.KernelRfl
namespace Go.Proofs.YtfgeocpooimojaaDoor
/- THE CELL 'sum', in the pinned program and in every row, IS THE sha256 OF THE DUMP (.gsa) THAT YtfgeocpooimojaaDoorProg.lean LOADS. Nothing in Lean hashes anything: it is a label: what it is worth is what the hold of that sum in a sandbox is worth. -/
noncomputable def Tryd.pinned : Pinned := { name := "ytfgeocpooimojaadoor", sum := "a7cbc304b376330a1ff29efc08ea6d954a1fde33be0368db24084cc5f2ef9cb7", checked := Tryd.checked }
namespace Rows
def none {H : Type} : Left H := { results := [], args := [] }

/- WHAT THE LISTED PACKAGE-LEVEL VARIABLES READ AS WHEN THE CALL BEGINS. Each datum BY PROGRAM (the guide's laid-datum.mjs) off the statement by which the dump's own 'gosem.cut.vars' lays the variable. In a bare row this is a premise. The card (YtfgeocpooimojaaDoorCards.lean) ties it to the program's text. -/
def laid_math_bits_deBruijn64tab {H : Type} : DataW H := .agg [.lit (.int .u8 0), .lit (.int .u8 1), .lit (.int .u8 56), .lit (.int .u8 2), .lit (.int .u8 57), .lit (.int .u8 49), .lit (.int .u8 28), .lit (.int .u8 3), .lit (.int .u8 61), .lit (.int .u8 58), .lit (.int .u8 42), .lit (.int .u8 50), .lit (.int .u8 38), .lit (.int .u8 29), .lit (.int .u8 17), .lit (.int .u8 4), .lit (.int .u8 62), .lit (.int .u8 47), .lit (.int .u8 59), .lit (.int .u8 36), .lit (.int .u8 45), .lit (.int .u8 43), .lit (.int .u8 51), .lit (.int .u8 22), .lit (.int .u8 53), .lit (.int .u8 39), .lit (.int .u8 33), .lit (.int .u8 30), .lit (.int .u8 24), .lit (.int .u8 18), .lit (.int .u8 12), .lit (.int .u8 5), .lit (.int .u8 63), .lit (.int .u8 55), .lit (.int .u8 48), .lit (.int .u8 27), .lit (.int .u8 60), .lit (.int .u8 41), .lit (.int .u8 37), .lit (.int .u8 16), .lit (.int .u8 46), .lit (.int .u8 35), .lit (.int .u8 44), .lit (.int .u8 21), .lit (.int .u8 52), .lit (.int .u8 32), .lit (.int .u8 23), .lit (.int .u8 11), .lit (.int .u8 54), .lit (.int .u8 26), .lit (.int .u8 40), .lit (.int .u8 15), .lit (.int .u8 34), .lit (.int .u8 20), .lit (.int .u8 31), .lit (.int .u8 10), .lit (.int .u8 25), .lit (.int .u8 14), .lit (.int .u8 19), .lit (.int .u8 9), .lit (.int .u8 13), .lit (.int .u8 8), .lit (.int .u8 7), .lit (.int .u8 6)]

/-- 'shipyardlaw49.WeightSums': WHATEVER THE INPUT: true; the input reads as it did. -/
def weightSumsSpec : ChangeSpec := { name := "weightSums", fn := fun _ => fun
  | [d1, d2, d3] => { results := [.lit (.bool true)], args := [d1, d2, d3] }
  | _ => none }
def weightSumsRow : OpenClaim := { program := "ytfgeocpooimojaadoor", sum := "a7cbc304b376330a1ff29efc08ea6d954a1fde33be0368db24084cc5f2ef9cb7", func := "shipyard/shipyardlaw49.WeightSums", spec := "weightSums", inPlace := ["math/bits.Add64", "math/bits.Sub64"], unfollowed := true, recurses := true, named := ["math/bits.deBruijn64tab"], apart := false, laid := [("math/bits.deBruijn64tab", laid_math_bits_deBruijn64tab)] }
def WeightSumsSaid : Prop := weightSumsRow.holds Tryd.pinned (OpenSpec.ofChange weightSumsSpec)

/-- ITS FALSE NEIGHBOUR: 'it returns false'. Refute it at one input. -/
def weightSumsWrong : ChangeSpec := { name := "weightSums", fn := fun _ => fun
  | [d1, d2, d3] => { results := [.lit (.bool false)], args := [d1, d2, d3] }
  | _ => none }
def WeightSumsWrongFalsely : Prop := weightSumsRow.holds Tryd.pinned (OpenSpec.ofChange weightSumsWrong)

/-- 'shipyardlaw49.WeightCentres': WHATEVER THE INPUT: true; the input reads as it did. -/
def weightCentresSpec : ChangeSpec := { name := "weightCentres", fn := fun _ => fun
  | [d1, d2] => { results := [.lit (.bool true)], args := [d1, d2] }
  | _ => none }
def weightCentresRow : OpenClaim := { program := "ytfgeocpooimojaadoor", sum := "a7cbc304b376330a1ff29efc08ea6d954a1fde33be0368db24084cc5f2ef9cb7", func := "shipyard/shipyardlaw49.WeightCentres", spec := "weightCentres", inPlace := ["math/bits.Add64", "math/bits.Sub64"], unfollowed := true, recurses := true, named := ["math/bits.deBruijn64tab"], apart := false, laid := [("math/bits.deBruijn64tab", laid_math_bits_deBruijn64tab)] }
def WeightCentresSaid : Prop := weightCentresRow.holds Tryd.pinned (OpenSpec.ofChange weightCentresSpec)

/-- ITS FALSE NEIGHBOUR: 'it returns false'. Refute it at one input. -/
def weightCentresWrong : ChangeSpec := { name := "weightCentres", fn := fun _ => fun
  | [d1, d2] => { results := [.lit (.bool false)], args := [d1, d2] }
  | _ => none }
def WeightCentresWrongFalsely : Prop := weightCentresRow.holds Tryd.pinned (OpenSpec.ofChange weightCentresWrong)

/-- 'shipyardlaw49.WeightScales': WHATEVER THE INPUT: true; the input reads as it did. -/
def weightScalesSpec : ChangeSpec := { name := "weightScales", fn := fun _ => fun
  | [d1, d2, d3] => { results := [.lit (.bool true)], args := [d1, d2, d3] }
  | _ => none }
def weightScalesRow : OpenClaim := { program := "ytfgeocpooimojaadoor", sum := "a7cbc304b376330a1ff29efc08ea6d954a1fde33be0368db24084cc5f2ef9cb7", func := "shipyard/shipyardlaw49.WeightScales", spec := "weightScales", inPlace := ["math/bits.Add64", "math/bits.Sub64"], unfollowed := true, recurses := true, named := ["math/bits.deBruijn64tab"], apart := false, laid := [("math/bits.deBruijn64tab", laid_math_bits_deBruijn64tab)] }
def WeightScalesSaid : Prop := weightScalesRow.holds Tryd.pinned (OpenSpec.ofChange weightScalesSpec)

/-- ITS FALSE NEIGHBOUR: 'it returns false'. Refute it at one input. -/
def weightScalesWrong : ChangeSpec := { name := "weightScales", fn := fun _ => fun
  | [d1, d2, d3] => { results := [.lit (.bool false)], args := [d1, d2, d3] }
  | _ => none }
def WeightScalesWrongFalsely : Prop := weightScalesRow.holds Tryd.pinned (OpenSpec.ofChange weightScalesWrong)

/-- 'shipyardlaw49.WeightOrder': WHATEVER THE INPUT: true; the input reads as it did. -/
def weightOrderSpec : ChangeSpec := { name := "weightOrder", fn := fun _ => fun
  | [d] => { results := [.lit (.bool true)], args := [d] }
  | _ => none }
def weightOrderRow : OpenClaim := { program := "ytfgeocpooimojaadoor", sum := "a7cbc304b376330a1ff29efc08ea6d954a1fde33be0368db24084cc5f2ef9cb7", func := "shipyard/shipyardlaw49.WeightOrder", spec := "weightOrder", inPlace := ["math/bits.Add64", "math/bits.Sub64"], unfollowed := true, recurses := true, named := ["math/bits.deBruijn64tab"], apart := false, laid := [("math/bits.deBruijn64tab", laid_math_bits_deBruijn64tab)] }
def WeightOrderSaid : Prop := weightOrderRow.holds Tryd.pinned (OpenSpec.ofChange weightOrderSpec)

/-- ITS FALSE NEIGHBOUR: 'it returns false'. Refute it at one input. -/
def weightOrderWrong : ChangeSpec := { name := "weightOrder", fn := fun _ => fun
  | [d] => { results := [.lit (.bool false)], args := [d] }
  | _ => none }
def WeightOrderWrongFalsely : Prop := weightOrderRow.holds Tryd.pinned (OpenSpec.ofChange weightOrderWrong)

/-- 'shipyardlaw49.WeightBetween': WHATEVER THE INPUT: true; the input reads as it did. -/
def weightBetweenSpec : ChangeSpec := { name := "weightBetween", fn := fun _ => fun
  | [d1, d2] => { results := [.lit (.bool true)], args := [d1, d2] }
  | _ => none }
def weightBetweenRow : OpenClaim := { program := "ytfgeocpooimojaadoor", sum := "a7cbc304b376330a1ff29efc08ea6d954a1fde33be0368db24084cc5f2ef9cb7", func := "shipyard/shipyardlaw49.WeightBetween", spec := "weightBetween", inPlace := ["math/bits.Add64", "math/bits.Sub64"], unfollowed := true, recurses := true, named := ["math/bits.deBruijn64tab"], apart := false, laid := [("math/bits.deBruijn64tab", laid_math_bits_deBruijn64tab)] }
def WeightBetweenSaid : Prop := weightBetweenRow.holds Tryd.pinned (OpenSpec.ofChange weightBetweenSpec)

/-- ITS FALSE NEIGHBOUR: 'it returns false'. Refute it at one input. -/
def weightBetweenWrong : ChangeSpec := { name := "weightBetween", fn := fun _ => fun
  | [d1, d2] => { results := [.lit (.bool false)], args := [d1, d2] }
  | _ => none }
def WeightBetweenWrongFalsely : Prop := weightBetweenRow.holds Tryd.pinned (OpenSpec.ofChange weightBetweenWrong)

/- THE SECOND FORM. 'bulk': how many values and letters a reading holds, each counted each time it is reached (what is shared counts as often as it is met; a slice's spare places count too). A statement '..UptoSaid' is the law's where the arguments, and the package variables that the reading takes, are together of bulk at most 1048576: NARROWER than '..Said'. Prove '..Said' where nothing that the law and all that it calls make is longer than what came in: it says more and counts as full. Else prove '..UptoSaid'. A law counts once. -/
mutual
def uptoBulk {H : Type} : DataW H → Nat
  | .lit (.string bytes) => bytes.length + 1
  | .lit _ => 1
  | .nil => 1
  | .ptr d => uptoBulk d + 1
  | .slice elems spare => uptoBulkAll elems + uptoBulkAll spare + 1
  | .agg parts => uptoBulkAll parts + 1
  | .iface _ d => uptoBulk d + 1
  | .map entries => uptoBulkEntries entries + 1
  | .held _ => 1
def uptoBulkAll {H : Type} : List (DataW H) → Nat
  | [] => 0
  | d :: r => uptoBulk d + uptoBulkAll r
def uptoBulkEntries {H : Type} : List (Lit × DataW H) → Nat
  | [] => 0
  | x :: r => uptoBulkEntry x + uptoBulkEntries r
def uptoBulkEntry {H : Type} : Lit × DataW H → Nat
  | (.string bytes, d) => bytes.length + uptoBulk d + 1
  | (_, d) => uptoBulk d + 1
 end
def uptoSmall : (H : Type) → List (DataW H) → Bool := fun _ ds => decide (uptoBulkAll ds ≤ 1048576)
def OpenSpec.upto (s : _root_.Go.ChangeSpec) : _root_.Go.OpenSpec := { _root_.Go.OpenSpec.ofChange s with cond := some uptoSmall }

/-- 'shipyardlaw49.WeightSums', WHERE WHAT IT READS IS OF BULK AT MOST 1048576: true; the input reads as it did. -/
def weightSumsUptoRow : OpenClaim := { program := "ytfgeocpooimojaadoor", sum := "a7cbc304b376330a1ff29efc08ea6d954a1fde33be0368db24084cc5f2ef9cb7", func := "shipyard/shipyardlaw49.WeightSums", spec := "weightSums", inPlace := ["math/bits.Add64", "math/bits.Sub64"], unfollowed := true, recurses := true, named := ["math/bits.deBruijn64tab"], apart := false, laid := [("math/bits.deBruijn64tab", laid_math_bits_deBruijn64tab)], narrowed := true }
def WeightSumsUptoSaid : Prop := weightSumsUptoRow.holds Tryd.pinned (OpenSpec.upto weightSumsSpec)

/-- 'shipyardlaw49.WeightCentres', WHERE WHAT IT READS IS OF BULK AT MOST 1048576: true; the input reads as it did. -/
def weightCentresUptoRow : OpenClaim := { program := "ytfgeocpooimojaadoor", sum := "a7cbc304b376330a1ff29efc08ea6d954a1fde33be0368db24084cc5f2ef9cb7", func := "shipyard/shipyardlaw49.WeightCentres", spec := "weightCentres", inPlace := ["math/bits.Add64", "math/bits.Sub64"], unfollowed := true, recurses := true, named := ["math/bits.deBruijn64tab"], apart := false, laid := [("math/bits.deBruijn64tab", laid_math_bits_deBruijn64tab)], narrowed := true }
def WeightCentresUptoSaid : Prop := weightCentresUptoRow.holds Tryd.pinned (OpenSpec.upto weightCentresSpec)

/-- 'shipyardlaw49.WeightScales', WHERE WHAT IT READS IS OF BULK AT MOST 1048576: true; the input reads as it did. -/
def weightScalesUptoRow : OpenClaim := { program := "ytfgeocpooimojaadoor", sum := "a7cbc304b376330a1ff29efc08ea6d954a1fde33be0368db24084cc5f2ef9cb7", func := "shipyard/shipyardlaw49.WeightScales", spec := "weightScales", inPlace := ["math/bits.Add64", "math/bits.Sub64"], unfollowed := true, recurses := true, named := ["math/bits.deBruijn64tab"], apart := false, laid := [("math/bits.deBruijn64tab", laid_math_bits_deBruijn64tab)], narrowed := true }
def WeightScalesUptoSaid : Prop := weightScalesUptoRow.holds Tryd.pinned (OpenSpec.upto weightScalesSpec)

/-- 'shipyardlaw49.WeightOrder', WHERE WHAT IT READS IS OF BULK AT MOST 1048576: true; the input reads as it did. -/
def weightOrderUptoRow : OpenClaim := { program := "ytfgeocpooimojaadoor", sum := "a7cbc304b376330a1ff29efc08ea6d954a1fde33be0368db24084cc5f2ef9cb7", func := "shipyard/shipyardlaw49.WeightOrder", spec := "weightOrder", inPlace := ["math/bits.Add64", "math/bits.Sub64"], unfollowed := true, recurses := true, named := ["math/bits.deBruijn64tab"], apart := false, laid := [("math/bits.deBruijn64tab", laid_math_bits_deBruijn64tab)], narrowed := true }
def WeightOrderUptoSaid : Prop := weightOrderUptoRow.holds Tryd.pinned (OpenSpec.upto weightOrderSpec)

/-- 'shipyardlaw49.WeightBetween', WHERE WHAT IT READS IS OF BULK AT MOST 1048576: true; the input reads as it did. -/
def weightBetweenUptoRow : OpenClaim := { program := "ytfgeocpooimojaadoor", sum := "a7cbc304b376330a1ff29efc08ea6d954a1fde33be0368db24084cc5f2ef9cb7", func := "shipyard/shipyardlaw49.WeightBetween", spec := "weightBetween", inPlace := ["math/bits.Add64", "math/bits.Sub64"], unfollowed := true, recurses := true, named := ["math/bits.deBruijn64tab"], apart := false, laid := [("math/bits.deBruijn64tab", laid_math_bits_deBruijn64tab)], narrowed := true }
def WeightBetweenUptoSaid : Prop := weightBetweenUptoRow.holds Tryd.pinned (OpenSpec.upto weightBetweenSpec)

end Rows
end Go.Proofs.YtfgeocpooimojaaDoor
