/-
  NARROWER THAN 'FOR EVERY INPUT', by the rows' own cells (each row's printed sentence says how): EventChecks: laid · EventCodes: laid · EventDecodes: laid · EventCuts: laid · EventSames: laid.
  DERIVED. THE GIVEN ROWS OF THIS SEAT. 5 by the template 'for every input the law returns true; each argument reads behind the call as it read before'; 0 by the template 'total and deterministic' (their statements: YtegjnjmimfgijaaGreatDoorTotals.lean).
  GIVEN WITH THE SEED: the statements are not yours to turn. If you find one false, say at which input.
  Laid BY PROGRAM, IN A SANDBOX (cutbox-rows.mjs): the forced cells as the released guide's own fill.sh prints them over the translation 2d5d7f012620c6de… (all of the seat's roots in one cut). By AI agents, Wed Nov 11 2026. No macro, syntax, notation, axiom, sorry.
-/
import Derived.Test.YtegjnjmimfgijaaGreatDoorChecked
import GoSem.PinnedTables
import GoSem.Claim
import GoSem.ClaimJoined
import GoSem.ClaimMapViews
import Derived.JoinedTies
import Derived.KernelRfl
namespace Go.Proofs.YtegjnjmimfgijaaGreatDoor
/- THE CELL 'sum', in the pinned program and in every row, IS THE sha256 OF THE DUMP (.gsa) THAT YtegjnjmimfgijaaGreatDoorProg.lean LOADS. Nothing in Lean hashes anything: it is a label: what it is worth is what the hold of that sum in a sandbox is worth. -/
noncomputable def Tryz.pinned : Pinned := { name := "ytegjnjmimfgijaagreatdoor", sum := "2d5d7f012620c6dea0ac2266ca95b5e01b65874d152c50a8ee45d6a89dba5f10", checked := Tryz.checked }
namespace Rows
def none {H : Type} : Left H := { results := [], args := [] }

/- WHAT THE LISTED PACKAGE-LEVEL VARIABLES READ AS WHEN THE CALL BEGINS. Each datum BY PROGRAM (the guide's laid-datum.mjs) off the statement by which the dump's own 'gosem.cut.vars' lays the variable. In a bare row this is a premise. The card (YtegjnjmimfgijaaGreatDoorCards.lean) ties it to the program's text. -/
def laid_unicode_utf8_acceptRanges {H : Type} : DataW H := .agg [.agg [.lit (.int .u8 128), .lit (.int .u8 191)], .agg [.lit (.int .u8 160), .lit (.int .u8 191)], .agg [.lit (.int .u8 128), .lit (.int .u8 159)], .agg [.lit (.int .u8 144), .lit (.int .u8 191)], .agg [.lit (.int .u8 128), .lit (.int .u8 143)], .agg [.lit (.int .u8 0), .lit (.int .u8 0)], .agg [.lit (.int .u8 0), .lit (.int .u8 0)], .agg [.lit (.int .u8 0), .lit (.int .u8 0)], .agg [.lit (.int .u8 0), .lit (.int .u8 0)], .agg [.lit (.int .u8 0), .lit (.int .u8 0)], .agg [.lit (.int .u8 0), .lit (.int .u8 0)], .agg [.lit (.int .u8 0), .lit (.int .u8 0)], .agg [.lit (.int .u8 0), .lit (.int .u8 0)], .agg [.lit (.int .u8 0), .lit (.int .u8 0)], .agg [.lit (.int .u8 0), .lit (.int .u8 0)], .agg [.lit (.int .u8 0), .lit (.int .u8 0)]]
def laid_shipyard_event_names {H : Type} : DataW H := .agg [.lit (.string []), .lit (.string [111, 114, 100, 101, 114]), .lit (.string [115, 104, 101, 101, 116]), .lit (.string [98, 97, 114]), .lit (.string [98, 117, 121]), .lit (.string [110, 101, 115, 116]), .lit (.string [115, 97, 119]), .lit (.string [115, 99, 114, 97, 112]), .lit (.string [102, 105, 116]), .lit (.string [119, 101, 108, 100]), .lit (.string [105, 110, 115, 112, 101, 99, 116]), .lit (.string [114, 101, 112, 97, 105, 114]), .lit (.string [112, 97, 99, 107, 97, 103, 101]), .lit (.string [119, 101, 105, 103, 104]), .lit (.string [101, 114, 101, 99, 116]), .lit (.string [112, 101, 114, 109, 105, 116]), .lit (.string [116, 101, 115, 116]), .lit (.string [108, 97, 117, 110, 99, 104]), .lit (.string [100, 101, 108, 105, 118, 101, 114])]
/-- One of Go's own tables, pinned by name: the form's constant. -/
def laid_unicode_utf8_first : DataW Unit := Go.Pinned.utf8First

/-- 'shipyardlaw59.EventChecks': WHATEVER THE INPUT: true; the input reads as it did. -/
def eventChecksSpec : ChangeSpec := { name := "eventChecks", fn := fun _ => fun
  | [d] => { results := [.lit (.bool true)], args := [d] }
  | _ => none }
def eventChecksRow : OpenClaim := { program := "ytegjnjmimfgijaagreatdoor", sum := "2d5d7f012620c6dea0ac2266ca95b5e01b65874d152c50a8ee45d6a89dba5f10", func := "shipyard/shipyardlaw59.EventChecks", spec := "eventChecks", inPlace := ["internal/abi.NoEscape", "internal/bytealg.CountString", "internal/bytealg.IndexByteString", "internal/bytealg.IndexString"], unfollowed := true, recurses := true, named := ["shipyard/event.names", "unicode/utf8.first", "unicode/utf8.acceptRanges", "internal/bytealg.MaxLen"], apart := false, laid := [("unicode/utf8.acceptRanges", laid_unicode_utf8_acceptRanges), ("shipyard/event.names", laid_shipyard_event_names), ("unicode/utf8.first", laid_unicode_utf8_first)] }
def EventChecksSaid : Prop := eventChecksRow.holds Tryz.pinned (OpenSpec.ofChange eventChecksSpec)

/-- ITS FALSE NEIGHBOUR: 'it returns false'. Refute it at one input. -/
def eventChecksWrong : ChangeSpec := { name := "eventChecks", fn := fun _ => fun
  | [d] => { results := [.lit (.bool false)], args := [d] }
  | _ => none }
def EventChecksWrongFalsely : Prop := eventChecksRow.holds Tryz.pinned (OpenSpec.ofChange eventChecksWrong)

/-- 'shipyardlaw59.EventCodes': WHATEVER THE INPUT: true; the input reads as it did. -/
def eventCodesSpec : ChangeSpec := { name := "eventCodes", fn := fun _ => fun
  | [d] => { results := [.lit (.bool true)], args := [d] }
  | _ => none }
def eventCodesRow : OpenClaim := { program := "ytegjnjmimfgijaagreatdoor", sum := "2d5d7f012620c6dea0ac2266ca95b5e01b65874d152c50a8ee45d6a89dba5f10", func := "shipyard/shipyardlaw59.EventCodes", spec := "eventCodes", inPlace := ["internal/abi.NoEscape", "internal/bytealg.CountString", "internal/bytealg.IndexByteString", "internal/bytealg.IndexString"], unfollowed := true, recurses := true, named := ["shipyard/event.names", "unicode/utf8.first", "unicode/utf8.acceptRanges", "internal/bytealg.MaxLen"], apart := false, laid := [("unicode/utf8.acceptRanges", laid_unicode_utf8_acceptRanges), ("shipyard/event.names", laid_shipyard_event_names), ("unicode/utf8.first", laid_unicode_utf8_first)] }
def EventCodesSaid : Prop := eventCodesRow.holds Tryz.pinned (OpenSpec.ofChange eventCodesSpec)

/-- ITS FALSE NEIGHBOUR: 'it returns false'. Refute it at one input. -/
def eventCodesWrong : ChangeSpec := { name := "eventCodes", fn := fun _ => fun
  | [d] => { results := [.lit (.bool false)], args := [d] }
  | _ => none }
def EventCodesWrongFalsely : Prop := eventCodesRow.holds Tryz.pinned (OpenSpec.ofChange eventCodesWrong)

/-- 'shipyardlaw59.EventDecodes': WHATEVER THE INPUT: true; the input reads as it did. -/
def eventDecodesSpec : ChangeSpec := { name := "eventDecodes", fn := fun _ => fun
  | [d] => { results := [.lit (.bool true)], args := [d] }
  | _ => none }
def eventDecodesRow : OpenClaim := { program := "ytegjnjmimfgijaagreatdoor", sum := "2d5d7f012620c6dea0ac2266ca95b5e01b65874d152c50a8ee45d6a89dba5f10", func := "shipyard/shipyardlaw59.EventDecodes", spec := "eventDecodes", inPlace := ["internal/abi.NoEscape", "internal/bytealg.CountString", "internal/bytealg.IndexByteString", "internal/bytealg.IndexString"], unfollowed := true, recurses := true, named := ["shipyard/event.names", "unicode/utf8.first", "unicode/utf8.acceptRanges", "internal/bytealg.MaxLen"], apart := false, laid := [("unicode/utf8.acceptRanges", laid_unicode_utf8_acceptRanges), ("shipyard/event.names", laid_shipyard_event_names), ("unicode/utf8.first", laid_unicode_utf8_first)] }
def EventDecodesSaid : Prop := eventDecodesRow.holds Tryz.pinned (OpenSpec.ofChange eventDecodesSpec)

/-- ITS FALSE NEIGHBOUR: 'it returns false'. Refute it at one input. -/
def eventDecodesWrong : ChangeSpec := { name := "eventDecodes", fn := fun _ => fun
  | [d] => { results := [.lit (.bool false)], args := [d] }
  | _ => none }
def EventDecodesWrongFalsely : Prop := eventDecodesRow.holds Tryz.pinned (OpenSpec.ofChange eventDecodesWrong)

/-- 'shipyardlaw59.EventCuts': WHATEVER THE INPUT: true; the input reads as it did. -/
def eventCutsSpec : ChangeSpec := { name := "eventCuts", fn := fun _ => fun
  | [d1, d2] => { results := [.lit (.bool true)], args := [d1, d2] }
  | _ => none }
def eventCutsRow : OpenClaim := { program := "ytegjnjmimfgijaagreatdoor", sum := "2d5d7f012620c6dea0ac2266ca95b5e01b65874d152c50a8ee45d6a89dba5f10", func := "shipyard/shipyardlaw59.EventCuts", spec := "eventCuts", inPlace := ["internal/abi.NoEscape", "internal/bytealg.CountString", "internal/bytealg.IndexByteString", "internal/bytealg.IndexString"], unfollowed := true, recurses := true, named := ["shipyard/event.names", "unicode/utf8.first", "unicode/utf8.acceptRanges", "internal/bytealg.MaxLen"], apart := false, laid := [("unicode/utf8.acceptRanges", laid_unicode_utf8_acceptRanges), ("shipyard/event.names", laid_shipyard_event_names), ("unicode/utf8.first", laid_unicode_utf8_first)] }
def EventCutsSaid : Prop := eventCutsRow.holds Tryz.pinned (OpenSpec.ofChange eventCutsSpec)

/-- ITS FALSE NEIGHBOUR: 'it returns false'. Refute it at one input. -/
def eventCutsWrong : ChangeSpec := { name := "eventCuts", fn := fun _ => fun
  | [d1, d2] => { results := [.lit (.bool false)], args := [d1, d2] }
  | _ => none }
def EventCutsWrongFalsely : Prop := eventCutsRow.holds Tryz.pinned (OpenSpec.ofChange eventCutsWrong)

/-- 'shipyardlaw59.EventSames': WHATEVER THE INPUT: true; the input reads as it did. -/
def eventSamesSpec : ChangeSpec := { name := "eventSames", fn := fun _ => fun
  | [d1, d2] => { results := [.lit (.bool true)], args := [d1, d2] }
  | _ => none }
def eventSamesRow : OpenClaim := { program := "ytegjnjmimfgijaagreatdoor", sum := "2d5d7f012620c6dea0ac2266ca95b5e01b65874d152c50a8ee45d6a89dba5f10", func := "shipyard/shipyardlaw59.EventSames", spec := "eventSames", inPlace := ["internal/abi.NoEscape", "internal/bytealg.CountString", "internal/bytealg.IndexByteString", "internal/bytealg.IndexString"], unfollowed := true, recurses := true, named := ["shipyard/event.names", "unicode/utf8.first", "unicode/utf8.acceptRanges", "internal/bytealg.MaxLen"], apart := false, laid := [("unicode/utf8.acceptRanges", laid_unicode_utf8_acceptRanges), ("shipyard/event.names", laid_shipyard_event_names), ("unicode/utf8.first", laid_unicode_utf8_first)] }
def EventSamesSaid : Prop := eventSamesRow.holds Tryz.pinned (OpenSpec.ofChange eventSamesSpec)

/-- ITS FALSE NEIGHBOUR: 'it returns false'. Refute it at one input. -/
def eventSamesWrong : ChangeSpec := { name := "eventSames", fn := fun _ => fun
  | [d1, d2] => { results := [.lit (.bool false)], args := [d1, d2] }
  | _ => none }
def EventSamesWrongFalsely : Prop := eventSamesRow.holds Tryz.pinned (OpenSpec.ofChange eventSamesWrong)

/- THE SECOND FORM. 'bulk': how many values and letters a reading holds, each counted each time it is reached (what is shared counts as often as it is met; a slice's spare places count too). A statement '..UptoSaid' is the law's where the arguments, and the package variables that the reading takes, are together of bulk at most 1048576: NARROWER than '..Said'. Prove '..Said' where nothing that the law and all that it calls make is longer than what came in: it says more and counts as full. Else prove '..UptoSaid'. A law counts once. -/
mutual
def uptoBulk {H : Type} : DataW H → Nat
  | .lit (.string bytes) => bytes.length + 1
  | .lit _ => 1
  | .nil => 1
  | .ptr d => uptoBulk d + 1
  | .slice elems spare => uptoBulkAll elems + uptoBulkAll spare + 1
  | .agg parts => uptoBulkAll parts + 1
  | .iface _ d => uptoBulk d + 1
  | .map entries => uptoBulkEntries entries + 1
  | .held _ => 1
def uptoBulkAll {H : Type} : List (DataW H) → Nat
  | [] => 0
  | d :: r => uptoBulk d + uptoBulkAll r
def uptoBulkEntries {H : Type} : List (Lit × DataW H) → Nat
  | [] => 0
  | x :: r => uptoBulkEntry x + uptoBulkEntries r
def uptoBulkEntry {H : Type} : Lit × DataW H → Nat
  | (.string bytes, d) => bytes.length + uptoBulk d + 1
  | (_, d) => uptoBulk d + 1
 end
def uptoSmall : (H : Type) → List (DataW H) → Bool := fun _ ds => decide (uptoBulkAll ds ≤ 1048576)
def OpenSpec.upto (s : _root_.Go.ChangeSpec) : _root_.Go.OpenSpec := { _root_.Go.OpenSpec.ofChange s with cond := some uptoSmall }

/-- 'shipyardlaw59.EventChecks', WHERE WHAT IT READS IS OF BULK AT MOST 1048576: true; the input reads as it did. -/
def eventChecksUptoRow : OpenClaim := { program := "ytegjnjmimfgijaagreatdoor", sum := "2d5d7f012620c6dea0ac2266ca95b5e01b65874d152c50a8ee45d6a89dba5f10", func := "shipyard/shipyardlaw59.EventChecks", spec := "eventChecks", inPlace := ["internal/abi.NoEscape", "internal/bytealg.CountString", "internal/bytealg.IndexByteString", "internal/bytealg.IndexString"], unfollowed := true, recurses := true, named := ["shipyard/event.names", "unicode/utf8.first", "unicode/utf8.acceptRanges", "internal/bytealg.MaxLen"], apart := false, laid := [("unicode/utf8.acceptRanges", laid_unicode_utf8_acceptRanges), ("shipyard/event.names", laid_shipyard_event_names), ("unicode/utf8.first", laid_unicode_utf8_first)], narrowed := true }
def EventChecksUptoSaid : Prop := eventChecksUptoRow.holds Tryz.pinned (OpenSpec.upto eventChecksSpec)

/-- 'shipyardlaw59.EventCodes', WHERE WHAT IT READS IS OF BULK AT MOST 1048576: true; the input reads as it did. -/
def eventCodesUptoRow : OpenClaim := { program := "ytegjnjmimfgijaagreatdoor", sum := "2d5d7f012620c6dea0ac2266ca95b5e01b65874d152c50a8ee45d6a89dba5f10", func := "shipyard/shipyardlaw59.EventCodes", spec := "eventCodes", inPlace := ["internal/abi.NoEscape", "internal/bytealg.CountString", "internal/bytealg.IndexByteString", "internal/bytealg.IndexString"], unfollowed := true, recurses := true, named := ["shipyard/event.names", "unicode/utf8.first", "unicode/utf8.acceptRanges", "internal/bytealg.MaxLen"], apart := false, laid := [("unicode/utf8.acceptRanges", laid_unicode_utf8_acceptRanges), ("shipyard/event.names", laid_shipyard_event_names), ("unicode/utf8.first", laid_unicode_utf8_first)], narrowed := true }
def EventCodesUptoSaid : Prop := eventCodesUptoRow.holds Tryz.pinned (OpenSpec.upto eventCodesSpec)

/-- 'shipyardlaw59.EventDecodes', WHERE WHAT IT READS IS OF BULK AT MOST 1048576: true; the input reads as it did. -/
def eventDecodesUptoRow : OpenClaim := { program := "ytegjnjmimfgijaagreatdoor", sum := "2d5d7f012620c6dea0ac2266ca95b5e01b65874d152c50a8ee45d6a89dba5f10", func := "shipyard/shipyardlaw59.EventDecodes", spec := "eventDecodes", inPlace := ["internal/abi.NoEscape", "internal/bytealg.CountString", "internal/bytealg.IndexByteString", "internal/bytealg.IndexString"], unfollowed := true, recurses := true, named := ["shipyard/event.names", "unicode/utf8.first", "unicode/utf8.acceptRanges", "internal/bytealg.MaxLen"], apart := false, laid := [("unicode/utf8.acceptRanges", laid_unicode_utf8_acceptRanges), ("shipyard/event.names", laid_shipyard_event_names), ("unicode/utf8.first", laid_unicode_utf8_first)], narrowed := true }
def EventDecodesUptoSaid : Prop := eventDecodesUptoRow.holds Tryz.pinned (OpenSpec.upto eventDecodesSpec)

/-- 'shipyardlaw59.EventCuts', WHERE WHAT IT READS IS OF BULK AT MOST 1048576: true; the input reads as it did. -/
def eventCutsUptoRow : OpenClaim := { program := "ytegjnjmimfgijaagreatdoor", sum := "2d5d7f012620c6dea0ac2266ca95b5e01b65874d152c50a8ee45d6a89dba5f10", func := "shipyard/shipyardlaw59.EventCuts", spec := "eventCuts", inPlace := ["internal/abi.NoEscape", "internal/bytealg.CountString", "internal/bytealg.IndexByteString", "internal/bytealg.IndexString"], unfollowed := true, recurses := true, named := ["shipyard/event.names", "unicode/utf8.first", "unicode/utf8.acceptRanges", "internal/bytealg.MaxLen"], apart := false, laid := [("unicode/utf8.acceptRanges", laid_unicode_utf8_acceptRanges), ("shipyard/event.names", laid_shipyard_event_names), ("unicode/utf8.first", laid_unicode_utf8_first)], narrowed := true }
def EventCutsUptoSaid : Prop := eventCutsUptoRow.holds Tryz.pinned (OpenSpec.upto eventCutsSpec)

/-- 'shipyardlaw59.EventSames', WHERE WHAT IT READS IS OF BULK AT MOST 1048576: true; the input reads as it did. -/
def eventSamesUptoRow : OpenClaim := { program := "ytegjnjmimfgijaagreatdoor", sum := "2d5d7f012620c6dea0ac2266ca95b5e01b65874d152c50a8ee45d6a89dba5f10", func := "shipyard/shipyardlaw59.EventSames", spec := "eventSames", inPlace := ["internal/abi.NoEscape", "internal/bytealg.CountString", "internal/bytealg.IndexByteString", "internal/bytealg.IndexString"], unfollowed := true, recurses := true, named := ["shipyard/event.names", "unicode/utf8.first", "unicode/utf8.acceptRanges", "internal/bytealg.MaxLen"], apart := false, laid := [("unicode/utf8.acceptRanges", laid_unicode_utf8_acceptRanges), ("shipyard/event.names", laid_shipyard_event_names), ("unicode/utf8.first", laid_unicode_utf8_first)], narrowed := true }
def EventSamesUptoSaid : Prop := eventSamesUptoRow.holds Tryz.pinned (OpenSpec.upto eventSamesSpec)

end Rows
end Go.Proofs.YtegjnjmimfgijaaGreatDoor
