/-
  NARROWER THAN 'FOR EVERY INPUT', by the rows' own cells (each row's printed sentence says how): PartChecks: laid · PartWeighs: laid · PartEncodes: laid · PartSame: laid · PartMoves: laid · PartHoles: laid · PartReads: laid · PartBack: laid · WeightParts: laid · WeightDisjoint: laid · WeightMoves: laid.
  DERIVED. THE GIVEN ROWS OF THIS SEAT. 11 by the template 'for every input the law returns true; each argument reads behind the call as it read before'; 0 by the template 'total and deterministic' (their statements: YtngginofamlkkaaGreatDoorTotals.lean).
  GIVEN WITH THE SEED: the statements are not yours to turn. If you find one false, say at which input.
  Laid BY PROGRAM, IN A SANDBOX (cutbox-rows.mjs): the forced cells as the released guide's own fill.sh prints them over the translation f7273f1fe7c1da4f… (all of the seat's roots in one cut). By AI agents, Wed Nov 11 2026. No macro, syntax, notation, axiom, sorry.
-/
import Derived.Test.YtngginofamlkkaaGreatDoorChecked
import GoSem.PinnedTables
import GoSem.Claim
import GoSem.ClaimJoined
import GoSem.ClaimMapViews
import Derived.JoinedTies
import Derived.KernelRfl
namespace Go.Proofs.YtngginofamlkkaaGreatDoor
/- THE CELL 'sum', in the pinned program and in every row, IS THE sha256 OF THE DUMP (.gsa) THAT YtngginofamlkkaaGreatDoorProg.lean LOADS. Nothing in Lean hashes anything: it is a label: what it is worth is what the hold of that sum in a sandbox is worth. -/
noncomputable def Tryz.pinned : Pinned := { name := "ytngginofamlkkaagreatdoor", sum := "f7273f1fe7c1da4f829c1ea2c2e768754ede95db05fa37f379fa080cafed6cd8", checked := Tryz.checked }
namespace Rows
def none {H : Type} : Left H := { results := [], args := [] }

/- WHAT THE LISTED PACKAGE-LEVEL VARIABLES READ AS WHEN THE CALL BEGINS. Each datum BY PROGRAM (the guide's laid-datum.mjs) off the statement by which the dump's own 'gosem.cut.vars' lays the variable. In a bare row this is a premise. The card (YtngginofamlkkaaGreatDoorCards.lean) ties it to the program's text. -/
def laid_unicode_utf8_acceptRanges {H : Type} : DataW H := .agg [.agg [.lit (.int .u8 128), .lit (.int .u8 191)], .agg [.lit (.int .u8 160), .lit (.int .u8 191)], .agg [.lit (.int .u8 128), .lit (.int .u8 159)], .agg [.lit (.int .u8 144), .lit (.int .u8 191)], .agg [.lit (.int .u8 128), .lit (.int .u8 143)], .agg [.lit (.int .u8 0), .lit (.int .u8 0)], .agg [.lit (.int .u8 0), .lit (.int .u8 0)], .agg [.lit (.int .u8 0), .lit (.int .u8 0)], .agg [.lit (.int .u8 0), .lit (.int .u8 0)], .agg [.lit (.int .u8 0), .lit (.int .u8 0)], .agg [.lit (.int .u8 0), .lit (.int .u8 0)], .agg [.lit (.int .u8 0), .lit (.int .u8 0)], .agg [.lit (.int .u8 0), .lit (.int .u8 0)], .agg [.lit (.int .u8 0), .lit (.int .u8 0)], .agg [.lit (.int .u8 0), .lit (.int .u8 0)], .agg [.lit (.int .u8 0), .lit (.int .u8 0)]]
/-- One of Go's own tables, pinned by name: the form's constant. -/
def laid_unicode_utf8_first : DataW Unit := Go.Pinned.utf8First
def laid_math_bits_deBruijn64tab {H : Type} : DataW H := .agg [.lit (.int .u8 0), .lit (.int .u8 1), .lit (.int .u8 56), .lit (.int .u8 2), .lit (.int .u8 57), .lit (.int .u8 49), .lit (.int .u8 28), .lit (.int .u8 3), .lit (.int .u8 61), .lit (.int .u8 58), .lit (.int .u8 42), .lit (.int .u8 50), .lit (.int .u8 38), .lit (.int .u8 29), .lit (.int .u8 17), .lit (.int .u8 4), .lit (.int .u8 62), .lit (.int .u8 47), .lit (.int .u8 59), .lit (.int .u8 36), .lit (.int .u8 45), .lit (.int .u8 43), .lit (.int .u8 51), .lit (.int .u8 22), .lit (.int .u8 53), .lit (.int .u8 39), .lit (.int .u8 33), .lit (.int .u8 30), .lit (.int .u8 24), .lit (.int .u8 18), .lit (.int .u8 12), .lit (.int .u8 5), .lit (.int .u8 63), .lit (.int .u8 55), .lit (.int .u8 48), .lit (.int .u8 27), .lit (.int .u8 60), .lit (.int .u8 41), .lit (.int .u8 37), .lit (.int .u8 16), .lit (.int .u8 46), .lit (.int .u8 35), .lit (.int .u8 44), .lit (.int .u8 21), .lit (.int .u8 52), .lit (.int .u8 32), .lit (.int .u8 23), .lit (.int .u8 11), .lit (.int .u8 54), .lit (.int .u8 26), .lit (.int .u8 40), .lit (.int .u8 15), .lit (.int .u8 34), .lit (.int .u8 20), .lit (.int .u8 31), .lit (.int .u8 10), .lit (.int .u8 25), .lit (.int .u8 14), .lit (.int .u8 19), .lit (.int .u8 9), .lit (.int .u8 13), .lit (.int .u8 8), .lit (.int .u8 7), .lit (.int .u8 6)]

/-- 'shipyardlaw16.PartChecks': WHATEVER THE INPUT: true; the input reads as it did. -/
def partChecksSpec : ChangeSpec := { name := "partChecks", fn := fun _ => fun
  | [d1, d2] => { results := [.lit (.bool true)], args := [d1, d2] }
  | _ => none }
def partChecksRow : OpenClaim := { program := "ytngginofamlkkaagreatdoor", sum := "f7273f1fe7c1da4f829c1ea2c2e768754ede95db05fa37f379fa080cafed6cd8", func := "shipyard/shipyardlaw16.PartChecks", spec := "partChecks", inPlace := ["internal/bytealg.CountString", "internal/bytealg.IndexByteString", "internal/bytealg.IndexString"], unfollowed := true, recurses := true, named := ["unicode/utf8.first", "unicode/utf8.acceptRanges", "internal/bytealg.MaxLen"], apart := false, laid := [("unicode/utf8.acceptRanges", laid_unicode_utf8_acceptRanges), ("unicode/utf8.first", laid_unicode_utf8_first)] }
def PartChecksSaid : Prop := partChecksRow.holds Tryz.pinned (OpenSpec.ofChange partChecksSpec)

/-- ITS FALSE NEIGHBOUR: 'it returns false'. Refute it at one input. -/
def partChecksWrong : ChangeSpec := { name := "partChecks", fn := fun _ => fun
  | [d1, d2] => { results := [.lit (.bool false)], args := [d1, d2] }
  | _ => none }
def PartChecksWrongFalsely : Prop := partChecksRow.holds Tryz.pinned (OpenSpec.ofChange partChecksWrong)

/-- 'shipyardlaw16.PartWeighs': WHATEVER THE INPUT: true; the input reads as it did. -/
def partWeighsSpec : ChangeSpec := { name := "partWeighs", fn := fun _ => fun
  | [d1, d2] => { results := [.lit (.bool true)], args := [d1, d2] }
  | _ => none }
def partWeighsRow : OpenClaim := { program := "ytngginofamlkkaagreatdoor", sum := "f7273f1fe7c1da4f829c1ea2c2e768754ede95db05fa37f379fa080cafed6cd8", func := "shipyard/shipyardlaw16.PartWeighs", spec := "partWeighs", inPlace := ["internal/bytealg.CountString", "internal/bytealg.IndexByteString", "internal/bytealg.IndexString"], unfollowed := true, recurses := true, named := ["unicode/utf8.first", "unicode/utf8.acceptRanges", "internal/bytealg.MaxLen"], apart := false, laid := [("unicode/utf8.acceptRanges", laid_unicode_utf8_acceptRanges), ("unicode/utf8.first", laid_unicode_utf8_first)] }
def PartWeighsSaid : Prop := partWeighsRow.holds Tryz.pinned (OpenSpec.ofChange partWeighsSpec)

/-- ITS FALSE NEIGHBOUR: 'it returns false'. Refute it at one input. -/
def partWeighsWrong : ChangeSpec := { name := "partWeighs", fn := fun _ => fun
  | [d1, d2] => { results := [.lit (.bool false)], args := [d1, d2] }
  | _ => none }
def PartWeighsWrongFalsely : Prop := partWeighsRow.holds Tryz.pinned (OpenSpec.ofChange partWeighsWrong)

/-- 'shipyardlaw16.PartEncodes': WHATEVER THE INPUT: true; the input reads as it did. -/
def partEncodesSpec : ChangeSpec := { name := "partEncodes", fn := fun _ => fun
  | [d] => { results := [.lit (.bool true)], args := [d] }
  | _ => none }
def partEncodesRow : OpenClaim := { program := "ytngginofamlkkaagreatdoor", sum := "f7273f1fe7c1da4f829c1ea2c2e768754ede95db05fa37f379fa080cafed6cd8", func := "shipyard/shipyardlaw16.PartEncodes", spec := "partEncodes", inPlace := ["internal/bytealg.CountString", "internal/bytealg.IndexByteString", "internal/bytealg.IndexString"], unfollowed := true, recurses := true, named := ["unicode/utf8.first", "unicode/utf8.acceptRanges", "internal/bytealg.MaxLen"], apart := false, laid := [("unicode/utf8.acceptRanges", laid_unicode_utf8_acceptRanges), ("unicode/utf8.first", laid_unicode_utf8_first)] }
def PartEncodesSaid : Prop := partEncodesRow.holds Tryz.pinned (OpenSpec.ofChange partEncodesSpec)

/-- ITS FALSE NEIGHBOUR: 'it returns false'. Refute it at one input. -/
def partEncodesWrong : ChangeSpec := { name := "partEncodes", fn := fun _ => fun
  | [d] => { results := [.lit (.bool false)], args := [d] }
  | _ => none }
def PartEncodesWrongFalsely : Prop := partEncodesRow.holds Tryz.pinned (OpenSpec.ofChange partEncodesWrong)

/-- 'shipyardlaw16.PartSame': WHATEVER THE INPUT: true; the input reads as it did. -/
def partSameSpec : ChangeSpec := { name := "partSame", fn := fun _ => fun
  | [d1, d2] => { results := [.lit (.bool true)], args := [d1, d2] }
  | _ => none }
def partSameRow : OpenClaim := { program := "ytngginofamlkkaagreatdoor", sum := "f7273f1fe7c1da4f829c1ea2c2e768754ede95db05fa37f379fa080cafed6cd8", func := "shipyard/shipyardlaw16.PartSame", spec := "partSame", inPlace := ["internal/bytealg.CountString", "internal/bytealg.IndexByteString", "internal/bytealg.IndexString"], unfollowed := true, recurses := true, named := ["unicode/utf8.first", "unicode/utf8.acceptRanges", "internal/bytealg.MaxLen"], apart := false, laid := [("unicode/utf8.acceptRanges", laid_unicode_utf8_acceptRanges), ("unicode/utf8.first", laid_unicode_utf8_first)] }
def PartSameSaid : Prop := partSameRow.holds Tryz.pinned (OpenSpec.ofChange partSameSpec)

/-- ITS FALSE NEIGHBOUR: 'it returns false'. Refute it at one input. -/
def partSameWrong : ChangeSpec := { name := "partSame", fn := fun _ => fun
  | [d1, d2] => { results := [.lit (.bool false)], args := [d1, d2] }
  | _ => none }
def PartSameWrongFalsely : Prop := partSameRow.holds Tryz.pinned (OpenSpec.ofChange partSameWrong)

/-- 'shipyardlaw16.PartMoves': WHATEVER THE INPUT: true; the input reads as it did. -/
def partMovesSpec : ChangeSpec := { name := "partMoves", fn := fun _ => fun
  | [d1, d2, d3] => { results := [.lit (.bool true)], args := [d1, d2, d3] }
  | _ => none }
def partMovesRow : OpenClaim := { program := "ytngginofamlkkaagreatdoor", sum := "f7273f1fe7c1da4f829c1ea2c2e768754ede95db05fa37f379fa080cafed6cd8", func := "shipyard/shipyardlaw16.PartMoves", spec := "partMoves", inPlace := ["internal/bytealg.CountString", "internal/bytealg.IndexByteString", "internal/bytealg.IndexString"], unfollowed := true, recurses := true, named := ["unicode/utf8.first", "unicode/utf8.acceptRanges", "internal/bytealg.MaxLen"], apart := false, laid := [("unicode/utf8.acceptRanges", laid_unicode_utf8_acceptRanges), ("unicode/utf8.first", laid_unicode_utf8_first)] }
def PartMovesSaid : Prop := partMovesRow.holds Tryz.pinned (OpenSpec.ofChange partMovesSpec)

/-- ITS FALSE NEIGHBOUR: 'it returns false'. Refute it at one input. -/
def partMovesWrong : ChangeSpec := { name := "partMoves", fn := fun _ => fun
  | [d1, d2, d3] => { results := [.lit (.bool false)], args := [d1, d2, d3] }
  | _ => none }
def PartMovesWrongFalsely : Prop := partMovesRow.holds Tryz.pinned (OpenSpec.ofChange partMovesWrong)

/-- 'shipyardlaw16.PartHoles': WHATEVER THE INPUT: true; the input reads as it did. -/
def partHolesSpec : ChangeSpec := { name := "partHoles", fn := fun _ => fun
  | [d1, d2, d3] => { results := [.lit (.bool true)], args := [d1, d2, d3] }
  | _ => none }
def partHolesRow : OpenClaim := { program := "ytngginofamlkkaagreatdoor", sum := "f7273f1fe7c1da4f829c1ea2c2e768754ede95db05fa37f379fa080cafed6cd8", func := "shipyard/shipyardlaw16.PartHoles", spec := "partHoles", inPlace := ["internal/bytealg.CountString", "internal/bytealg.IndexByteString", "internal/bytealg.IndexString"], unfollowed := true, recurses := true, named := ["unicode/utf8.first", "unicode/utf8.acceptRanges", "internal/bytealg.MaxLen"], apart := false, laid := [("unicode/utf8.acceptRanges", laid_unicode_utf8_acceptRanges), ("unicode/utf8.first", laid_unicode_utf8_first)] }
def PartHolesSaid : Prop := partHolesRow.holds Tryz.pinned (OpenSpec.ofChange partHolesSpec)

/-- ITS FALSE NEIGHBOUR: 'it returns false'. Refute it at one input. -/
def partHolesWrong : ChangeSpec := { name := "partHoles", fn := fun _ => fun
  | [d1, d2, d3] => { results := [.lit (.bool false)], args := [d1, d2, d3] }
  | _ => none }
def PartHolesWrongFalsely : Prop := partHolesRow.holds Tryz.pinned (OpenSpec.ofChange partHolesWrong)

/-- 'shipyardlaw16.PartReads': WHATEVER THE INPUT: true; the input reads as it did. -/
def partReadsSpec : ChangeSpec := { name := "partReads", fn := fun _ => fun
  | [d] => { results := [.lit (.bool true)], args := [d] }
  | _ => none }
def partReadsRow : OpenClaim := { program := "ytngginofamlkkaagreatdoor", sum := "f7273f1fe7c1da4f829c1ea2c2e768754ede95db05fa37f379fa080cafed6cd8", func := "shipyard/shipyardlaw16.PartReads", spec := "partReads", inPlace := ["internal/bytealg.CountString", "internal/bytealg.IndexByteString", "internal/bytealg.IndexString"], unfollowed := true, recurses := true, named := ["unicode/utf8.first", "unicode/utf8.acceptRanges", "internal/bytealg.MaxLen"], apart := false, laid := [("unicode/utf8.acceptRanges", laid_unicode_utf8_acceptRanges), ("unicode/utf8.first", laid_unicode_utf8_first)] }
def PartReadsSaid : Prop := partReadsRow.holds Tryz.pinned (OpenSpec.ofChange partReadsSpec)

/-- ITS FALSE NEIGHBOUR: 'it returns false'. Refute it at one input. -/
def partReadsWrong : ChangeSpec := { name := "partReads", fn := fun _ => fun
  | [d] => { results := [.lit (.bool false)], args := [d] }
  | _ => none }
def PartReadsWrongFalsely : Prop := partReadsRow.holds Tryz.pinned (OpenSpec.ofChange partReadsWrong)

/-- 'shipyardlaw16.PartBack': WHATEVER THE INPUT: true; the input reads as it did. -/
def partBackSpec : ChangeSpec := { name := "partBack", fn := fun _ => fun
  | [d1, d2] => { results := [.lit (.bool true)], args := [d1, d2] }
  | _ => none }
def partBackRow : OpenClaim := { program := "ytngginofamlkkaagreatdoor", sum := "f7273f1fe7c1da4f829c1ea2c2e768754ede95db05fa37f379fa080cafed6cd8", func := "shipyard/shipyardlaw16.PartBack", spec := "partBack", inPlace := ["internal/bytealg.CountString", "internal/bytealg.IndexByteString", "internal/bytealg.IndexString"], unfollowed := true, recurses := true, named := ["unicode/utf8.first", "unicode/utf8.acceptRanges", "internal/bytealg.MaxLen"], apart := false, laid := [("unicode/utf8.acceptRanges", laid_unicode_utf8_acceptRanges), ("unicode/utf8.first", laid_unicode_utf8_first)] }
def PartBackSaid : Prop := partBackRow.holds Tryz.pinned (OpenSpec.ofChange partBackSpec)

/-- ITS FALSE NEIGHBOUR: 'it returns false'. Refute it at one input. -/
def partBackWrong : ChangeSpec := { name := "partBack", fn := fun _ => fun
  | [d1, d2] => { results := [.lit (.bool false)], args := [d1, d2] }
  | _ => none }
def PartBackWrongFalsely : Prop := partBackRow.holds Tryz.pinned (OpenSpec.ofChange partBackWrong)

/-- 'shipyardlaw49.WeightParts': WHATEVER THE INPUT: true; the input reads as it did. -/
def weightPartsSpec : ChangeSpec := { name := "weightParts", fn := fun _ => fun
  | [d1, d2, d3] => { results := [.lit (.bool true)], args := [d1, d2, d3] }
  | _ => none }
def weightPartsRow : OpenClaim := { program := "ytngginofamlkkaagreatdoor", sum := "f7273f1fe7c1da4f829c1ea2c2e768754ede95db05fa37f379fa080cafed6cd8", func := "shipyard/shipyardlaw49.WeightParts", spec := "weightParts", inPlace := ["math/bits.Add64", "math/bits.Sub64", "internal/bytealg.CountString", "internal/bytealg.IndexByteString", "internal/bytealg.IndexString"], unfollowed := true, recurses := true, named := ["math/bits.deBruijn64tab", "unicode/utf8.first", "unicode/utf8.acceptRanges", "internal/bytealg.MaxLen"], apart := false, laid := [("math/bits.deBruijn64tab", laid_math_bits_deBruijn64tab), ("unicode/utf8.acceptRanges", laid_unicode_utf8_acceptRanges), ("unicode/utf8.first", laid_unicode_utf8_first)] }
def WeightPartsSaid : Prop := weightPartsRow.holds Tryz.pinned (OpenSpec.ofChange weightPartsSpec)

/-- ITS FALSE NEIGHBOUR: 'it returns false'. Refute it at one input. -/
def weightPartsWrong : ChangeSpec := { name := "weightParts", fn := fun _ => fun
  | [d1, d2, d3] => { results := [.lit (.bool false)], args := [d1, d2, d3] }
  | _ => none }
def WeightPartsWrongFalsely : Prop := weightPartsRow.holds Tryz.pinned (OpenSpec.ofChange weightPartsWrong)

/-- 'shipyardlaw49.WeightDisjoint': WHATEVER THE INPUT: true; the input reads as it did. -/
def weightDisjointSpec : ChangeSpec := { name := "weightDisjoint", fn := fun _ => fun
  | [d1, d2, d3] => { results := [.lit (.bool true)], args := [d1, d2, d3] }
  | _ => none }
def weightDisjointRow : OpenClaim := { program := "ytngginofamlkkaagreatdoor", sum := "f7273f1fe7c1da4f829c1ea2c2e768754ede95db05fa37f379fa080cafed6cd8", func := "shipyard/shipyardlaw49.WeightDisjoint", spec := "weightDisjoint", inPlace := ["math/bits.Add64", "math/bits.Sub64", "internal/bytealg.CountString", "internal/bytealg.IndexByteString", "internal/bytealg.IndexString"], unfollowed := true, recurses := true, named := ["math/bits.deBruijn64tab", "unicode/utf8.first", "unicode/utf8.acceptRanges", "internal/bytealg.MaxLen"], apart := false, laid := [("math/bits.deBruijn64tab", laid_math_bits_deBruijn64tab), ("unicode/utf8.acceptRanges", laid_unicode_utf8_acceptRanges), ("unicode/utf8.first", laid_unicode_utf8_first)] }
def WeightDisjointSaid : Prop := weightDisjointRow.holds Tryz.pinned (OpenSpec.ofChange weightDisjointSpec)

/-- ITS FALSE NEIGHBOUR: 'it returns false'. Refute it at one input. -/
def weightDisjointWrong : ChangeSpec := { name := "weightDisjoint", fn := fun _ => fun
  | [d1, d2, d3] => { results := [.lit (.bool false)], args := [d1, d2, d3] }
  | _ => none }
def WeightDisjointWrongFalsely : Prop := weightDisjointRow.holds Tryz.pinned (OpenSpec.ofChange weightDisjointWrong)

/-- 'shipyardlaw49.WeightMoves': WHATEVER THE INPUT: true; the input reads as it did. -/
def weightMovesSpec : ChangeSpec := { name := "weightMoves", fn := fun _ => fun
  | [d1, d2, d3] => { results := [.lit (.bool true)], args := [d1, d2, d3] }
  | _ => none }
def weightMovesRow : OpenClaim := { program := "ytngginofamlkkaagreatdoor", sum := "f7273f1fe7c1da4f829c1ea2c2e768754ede95db05fa37f379fa080cafed6cd8", func := "shipyard/shipyardlaw49.WeightMoves", spec := "weightMoves", inPlace := ["math/bits.Add64", "math/bits.Sub64", "internal/bytealg.CountString", "internal/bytealg.IndexByteString", "internal/bytealg.IndexString"], unfollowed := true, recurses := true, named := ["math/bits.deBruijn64tab", "unicode/utf8.first", "unicode/utf8.acceptRanges", "internal/bytealg.MaxLen"], apart := false, laid := [("math/bits.deBruijn64tab", laid_math_bits_deBruijn64tab), ("unicode/utf8.acceptRanges", laid_unicode_utf8_acceptRanges), ("unicode/utf8.first", laid_unicode_utf8_first)] }
def WeightMovesSaid : Prop := weightMovesRow.holds Tryz.pinned (OpenSpec.ofChange weightMovesSpec)

/-- ITS FALSE NEIGHBOUR: 'it returns false'. Refute it at one input. -/
def weightMovesWrong : ChangeSpec := { name := "weightMoves", fn := fun _ => fun
  | [d1, d2, d3] => { results := [.lit (.bool false)], args := [d1, d2, d3] }
  | _ => none }
def WeightMovesWrongFalsely : Prop := weightMovesRow.holds Tryz.pinned (OpenSpec.ofChange weightMovesWrong)

/- THE SECOND FORM. 'bulk': how many values and letters a reading holds, each counted each time it is reached (what is shared counts as often as it is met; a slice's spare places count too). A statement '..UptoSaid' is the law's where the arguments, and the package variables that the reading takes, are together of bulk at most 1048576: NARROWER than '..Said'. Prove '..Said' where nothing that the law and all that it calls make is longer than what came in: it says more and counts as full. Else prove '..UptoSaid'. A law counts once. -/
mutual
def uptoBulk {H : Type} : DataW H → Nat
  | .lit (.string bytes) => bytes.length + 1
  | .lit _ => 1
  | .nil => 1
  | .ptr d => uptoBulk d + 1
  | .slice elems spare => uptoBulkAll elems + uptoBulkAll spare + 1
  | .agg parts => uptoBulkAll parts + 1
  | .iface _ d => uptoBulk d + 1
  | .map entries => uptoBulkEntries entries + 1
  | .held _ => 1
def uptoBulkAll {H : Type} : List (DataW H) → Nat
  | [] => 0
  | d :: r => uptoBulk d + uptoBulkAll r
def uptoBulkEntries {H : Type} : List (Lit × DataW H) → Nat
  | [] => 0
  | x :: r => uptoBulkEntry x + uptoBulkEntries r
def uptoBulkEntry {H : Type} : Lit × DataW H → Nat
  | (.string bytes, d) => bytes.length + uptoBulk d + 1
  | (_, d) => uptoBulk d + 1
 end
def uptoSmall : (H : Type) → List (DataW H) → Bool := fun _ ds => decide (uptoBulkAll ds ≤ 1048576)
def OpenSpec.upto (s : _root_.Go.ChangeSpec) : _root_.Go.OpenSpec := { _root_.Go.OpenSpec.ofChange s with cond := some uptoSmall }

/-- 'shipyardlaw16.PartChecks', WHERE WHAT IT READS IS OF BULK AT MOST 1048576: true; the input reads as it did. -/
def partChecksUptoRow : OpenClaim := { program := "ytngginofamlkkaagreatdoor", sum := "f7273f1fe7c1da4f829c1ea2c2e768754ede95db05fa37f379fa080cafed6cd8", func := "shipyard/shipyardlaw16.PartChecks", spec := "partChecks", inPlace := ["internal/bytealg.CountString", "internal/bytealg.IndexByteString", "internal/bytealg.IndexString"], unfollowed := true, recurses := true, named := ["unicode/utf8.first", "unicode/utf8.acceptRanges", "internal/bytealg.MaxLen"], apart := false, laid := [("unicode/utf8.acceptRanges", laid_unicode_utf8_acceptRanges), ("unicode/utf8.first", laid_unicode_utf8_first)], narrowed := true }
def PartChecksUptoSaid : Prop := partChecksUptoRow.holds Tryz.pinned (OpenSpec.upto partChecksSpec)

/-- 'shipyardlaw16.PartWeighs', WHERE WHAT IT READS IS OF BULK AT MOST 1048576: true; the input reads as it did. -/
def partWeighsUptoRow : OpenClaim := { program := "ytngginofamlkkaagreatdoor", sum := "f7273f1fe7c1da4f829c1ea2c2e768754ede95db05fa37f379fa080cafed6cd8", func := "shipyard/shipyardlaw16.PartWeighs", spec := "partWeighs", inPlace := ["internal/bytealg.CountString", "internal/bytealg.IndexByteString", "internal/bytealg.IndexString"], unfollowed := true, recurses := true, named := ["unicode/utf8.first", "unicode/utf8.acceptRanges", "internal/bytealg.MaxLen"], apart := false, laid := [("unicode/utf8.acceptRanges", laid_unicode_utf8_acceptRanges), ("unicode/utf8.first", laid_unicode_utf8_first)], narrowed := true }
def PartWeighsUptoSaid : Prop := partWeighsUptoRow.holds Tryz.pinned (OpenSpec.upto partWeighsSpec)

/-- 'shipyardlaw16.PartEncodes', WHERE WHAT IT READS IS OF BULK AT MOST 1048576: true; the input reads as it did. -/
def partEncodesUptoRow : OpenClaim := { program := "ytngginofamlkkaagreatdoor", sum := "f7273f1fe7c1da4f829c1ea2c2e768754ede95db05fa37f379fa080cafed6cd8", func := "shipyard/shipyardlaw16.PartEncodes", spec := "partEncodes", inPlace := ["internal/bytealg.CountString", "internal/bytealg.IndexByteString", "internal/bytealg.IndexString"], unfollowed := true, recurses := true, named := ["unicode/utf8.first", "unicode/utf8.acceptRanges", "internal/bytealg.MaxLen"], apart := false, laid := [("unicode/utf8.acceptRanges", laid_unicode_utf8_acceptRanges), ("unicode/utf8.first", laid_unicode_utf8_first)], narrowed := true }
def PartEncodesUptoSaid : Prop := partEncodesUptoRow.holds Tryz.pinned (OpenSpec.upto partEncodesSpec)

/-- 'shipyardlaw16.PartSame', WHERE WHAT IT READS IS OF BULK AT MOST 1048576: true; the input reads as it did. -/
def partSameUptoRow : OpenClaim := { program := "ytngginofamlkkaagreatdoor", sum := "f7273f1fe7c1da4f829c1ea2c2e768754ede95db05fa37f379fa080cafed6cd8", func := "shipyard/shipyardlaw16.PartSame", spec := "partSame", inPlace := ["internal/bytealg.CountString", "internal/bytealg.IndexByteString", "internal/bytealg.IndexString"], unfollowed := true, recurses := true, named := ["unicode/utf8.first", "unicode/utf8.acceptRanges", "internal/bytealg.MaxLen"], apart := false, laid := [("unicode/utf8.acceptRanges", laid_unicode_utf8_acceptRanges), ("unicode/utf8.first", laid_unicode_utf8_first)], narrowed := true }
def PartSameUptoSaid : Prop := partSameUptoRow.holds Tryz.pinned (OpenSpec.upto partSameSpec)

/-- 'shipyardlaw16.PartMoves', WHERE WHAT IT READS IS OF BULK AT MOST 1048576: true; the input reads as it did. -/
def partMovesUptoRow : OpenClaim := { program := "ytngginofamlkkaagreatdoor", sum := "f7273f1fe7c1da4f829c1ea2c2e768754ede95db05fa37f379fa080cafed6cd8", func := "shipyard/shipyardlaw16.PartMoves", spec := "partMoves", inPlace := ["internal/bytealg.CountString", "internal/bytealg.IndexByteString", "internal/bytealg.IndexString"], unfollowed := true, recurses := true, named := ["unicode/utf8.first", "unicode/utf8.acceptRanges", "internal/bytealg.MaxLen"], apart := false, laid := [("unicode/utf8.acceptRanges", laid_unicode_utf8_acceptRanges), ("unicode/utf8.first", laid_unicode_utf8_first)], narrowed := true }
def PartMovesUptoSaid : Prop := partMovesUptoRow.holds Tryz.pinned (OpenSpec.upto partMovesSpec)

/-- 'shipyardlaw16.PartHoles', WHERE WHAT IT READS IS OF BULK AT MOST 1048576: true; the input reads as it did. -/
def partHolesUptoRow : OpenClaim := { program := "ytngginofamlkkaagreatdoor", sum := "f7273f1fe7c1da4f829c1ea2c2e768754ede95db05fa37f379fa080cafed6cd8", func := "shipyard/shipyardlaw16.PartHoles", spec := "partHoles", inPlace := ["internal/bytealg.CountString", "internal/bytealg.IndexByteString", "internal/bytealg.IndexString"], unfollowed := true, recurses := true, named := ["unicode/utf8.first", "unicode/utf8.acceptRanges", "internal/bytealg.MaxLen"], apart := false, laid := [("unicode/utf8.acceptRanges", laid_unicode_utf8_acceptRanges), ("unicode/utf8.first", laid_unicode_utf8_first)], narrowed := true }
def PartHolesUptoSaid : Prop := partHolesUptoRow.holds Tryz.pinned (OpenSpec.upto partHolesSpec)

/-- 'shipyardlaw16.PartReads', WHERE WHAT IT READS IS OF BULK AT MOST 1048576: true; the input reads as it did. -/
def partReadsUptoRow : OpenClaim := { program := "ytngginofamlkkaagreatdoor", sum := "f7273f1fe7c1da4f829c1ea2c2e768754ede95db05fa37f379fa080cafed6cd8", func := "shipyard/shipyardlaw16.PartReads", spec := "partReads", inPlace := ["internal/bytealg.CountString", "internal/bytealg.IndexByteString", "internal/bytealg.IndexString"], unfollowed := true, recurses := true, named := ["unicode/utf8.first", "unicode/utf8.acceptRanges", "internal/bytealg.MaxLen"], apart := false, laid := [("unicode/utf8.acceptRanges", laid_unicode_utf8_acceptRanges), ("unicode/utf8.first", laid_unicode_utf8_first)], narrowed := true }
def PartReadsUptoSaid : Prop := partReadsUptoRow.holds Tryz.pinned (OpenSpec.upto partReadsSpec)

/-- 'shipyardlaw16.PartBack', WHERE WHAT IT READS IS OF BULK AT MOST 1048576: true; the input reads as it did. -/
def partBackUptoRow : OpenClaim := { program := "ytngginofamlkkaagreatdoor", sum := "f7273f1fe7c1da4f829c1ea2c2e768754ede95db05fa37f379fa080cafed6cd8", func := "shipyard/shipyardlaw16.PartBack", spec := "partBack", inPlace := ["internal/bytealg.CountString", "internal/bytealg.IndexByteString", "internal/bytealg.IndexString"], unfollowed := true, recurses := true, named := ["unicode/utf8.first", "unicode/utf8.acceptRanges", "internal/bytealg.MaxLen"], apart := false, laid := [("unicode/utf8.acceptRanges", laid_unicode_utf8_acceptRanges), ("unicode/utf8.first", laid_unicode_utf8_first)], narrowed := true }
def PartBackUptoSaid : Prop := partBackUptoRow.holds Tryz.pinned (OpenSpec.upto partBackSpec)

/-- 'shipyardlaw49.WeightParts', WHERE WHAT IT READS IS OF BULK AT MOST 1048576: true; the input reads as it did. -/
def weightPartsUptoRow : OpenClaim := { program := "ytngginofamlkkaagreatdoor", sum := "f7273f1fe7c1da4f829c1ea2c2e768754ede95db05fa37f379fa080cafed6cd8", func := "shipyard/shipyardlaw49.WeightParts", spec := "weightParts", inPlace := ["math/bits.Add64", "math/bits.Sub64", "internal/bytealg.CountString", "internal/bytealg.IndexByteString", "internal/bytealg.IndexString"], unfollowed := true, recurses := true, named := ["math/bits.deBruijn64tab", "unicode/utf8.first", "unicode/utf8.acceptRanges", "internal/bytealg.MaxLen"], apart := false, laid := [("math/bits.deBruijn64tab", laid_math_bits_deBruijn64tab), ("unicode/utf8.acceptRanges", laid_unicode_utf8_acceptRanges), ("unicode/utf8.first", laid_unicode_utf8_first)], narrowed := true }
def WeightPartsUptoSaid : Prop := weightPartsUptoRow.holds Tryz.pinned (OpenSpec.upto weightPartsSpec)

/-- 'shipyardlaw49.WeightDisjoint', WHERE WHAT IT READS IS OF BULK AT MOST 1048576: true; the input reads as it did. -/
def weightDisjointUptoRow : OpenClaim := { program := "ytngginofamlkkaagreatdoor", sum := "f7273f1fe7c1da4f829c1ea2c2e768754ede95db05fa37f379fa080cafed6cd8", func := "shipyard/shipyardlaw49.WeightDisjoint", spec := "weightDisjoint", inPlace := ["math/bits.Add64", "math/bits.Sub64", "internal/bytealg.CountString", "internal/bytealg.IndexByteString", "internal/bytealg.IndexString"], unfollowed := true, recurses := true, named := ["math/bits.deBruijn64tab", "unicode/utf8.first", "unicode/utf8.acceptRanges", "internal/bytealg.MaxLen"], apart := false, laid := [("math/bits.deBruijn64tab", laid_math_bits_deBruijn64tab), ("unicode/utf8.acceptRanges", laid_unicode_utf8_acceptRanges), ("unicode/utf8.first", laid_unicode_utf8_first)], narrowed := true }
def WeightDisjointUptoSaid : Prop := weightDisjointUptoRow.holds Tryz.pinned (OpenSpec.upto weightDisjointSpec)

/-- 'shipyardlaw49.WeightMoves', WHERE WHAT IT READS IS OF BULK AT MOST 1048576: true; the input reads as it did. -/
def weightMovesUptoRow : OpenClaim := { program := "ytngginofamlkkaagreatdoor", sum := "f7273f1fe7c1da4f829c1ea2c2e768754ede95db05fa37f379fa080cafed6cd8", func := "shipyard/shipyardlaw49.WeightMoves", spec := "weightMoves", inPlace := ["math/bits.Add64", "math/bits.Sub64", "internal/bytealg.CountString", "internal/bytealg.IndexByteString", "internal/bytealg.IndexString"], unfollowed := true, recurses := true, named := ["math/bits.deBruijn64tab", "unicode/utf8.first", "unicode/utf8.acceptRanges", "internal/bytealg.MaxLen"], apart := false, laid := [("math/bits.deBruijn64tab", laid_math_bits_deBruijn64tab), ("unicode/utf8.acceptRanges", laid_unicode_utf8_acceptRanges), ("unicode/utf8.first", laid_unicode_utf8_first)], narrowed := true }
def WeightMovesUptoSaid : Prop := weightMovesUptoRow.holds Tryz.pinned (OpenSpec.upto weightMovesSpec)

end Rows
end Go.Proofs.YtngginofamlkkaaGreatDoor
