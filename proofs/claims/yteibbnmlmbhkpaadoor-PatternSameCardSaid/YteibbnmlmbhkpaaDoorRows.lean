/-
  NARROWER THAN 'FOR EVERY INPUT', by the rows' own cells (each row's printed sentence says how): PatternSymmetries: laid · PatternBurnside: laid · PatternGroup: laid · PatternMoves: laid · PatternSame: laid.
  DERIVED. THE GIVEN ROWS OF THIS SEAT. 5 by the template 'for every input the law returns true; each argument reads behind the call as it read before'; 0 by the template 'total and deterministic' (their statements: YteibbnmlmbhkpaaDoorTotals.lean).
  GIVEN WITH THE SEED: the statements are not yours to turn. If you find one false, say at which input.
  Laid BY PROGRAM, IN A SANDBOX (cutbox-rows.mjs): the forced cells as the released guide's own fill.sh prints them over the translation 8f02cbac8bb3b907… (all of the seat's roots in one cut). By AI agents, Wed Nov 11 2026. No macro, syntax, notation, axiom, sorry.
-/
import Derived.Test.YteibbnmlmbhkpaaDoorChecked
import GoSem.PinnedTables
import GoSem.Claim
import GoSem.ClaimJoined
import GoSem.ClaimMapViews
import Derived.JoinedTies
import Derived.KernelRfl
namespace Go.Proofs.YteibbnmlmbhkpaaDoor
/- THE CELL 'sum', in the pinned program and in every row, IS THE sha256 OF THE DUMP (.gsa) THAT YteibbnmlmbhkpaaDoorProg.lean LOADS. Nothing in Lean hashes anything: it is a label: what it is worth is what the hold of that sum in a sandbox is worth. -/
noncomputable def Tryd.pinned : Pinned := { name := "yteibbnmlmbhkpaadoor", sum := "8f02cbac8bb3b9079d5961c69adb2192c7c9e0f2066dedd5560906c1139535ca", checked := Tryd.checked }
namespace Rows
def none {H : Type} : Left H := { results := [], args := [] }

/- WHAT THE LISTED PACKAGE-LEVEL VARIABLES READ AS WHEN THE CALL BEGINS. Each datum BY PROGRAM (the guide's laid-datum.mjs) off the statement by which the dump's own 'gosem.cut.vars' lays the variable. In a bare row this is a premise. The card (YteibbnmlmbhkpaaDoorCards.lean) ties it to the program's text. -/
def laid_unicode_utf8_acceptRanges {H : Type} : DataW H := .agg [.agg [.lit (.int .u8 128), .lit (.int .u8 191)], .agg [.lit (.int .u8 160), .lit (.int .u8 191)], .agg [.lit (.int .u8 128), .lit (.int .u8 159)], .agg [.lit (.int .u8 144), .lit (.int .u8 191)], .agg [.lit (.int .u8 128), .lit (.int .u8 143)], .agg [.lit (.int .u8 0), .lit (.int .u8 0)], .agg [.lit (.int .u8 0), .lit (.int .u8 0)], .agg [.lit (.int .u8 0), .lit (.int .u8 0)], .agg [.lit (.int .u8 0), .lit (.int .u8 0)], .agg [.lit (.int .u8 0), .lit (.int .u8 0)], .agg [.lit (.int .u8 0), .lit (.int .u8 0)], .agg [.lit (.int .u8 0), .lit (.int .u8 0)], .agg [.lit (.int .u8 0), .lit (.int .u8 0)], .agg [.lit (.int .u8 0), .lit (.int .u8 0)], .agg [.lit (.int .u8 0), .lit (.int .u8 0)], .agg [.lit (.int .u8 0), .lit (.int .u8 0)]]
def laid_encaustic_pattern_kinds {H : Type} : DataW H := .agg [.agg [.lit (.int .i64 1), .lit (.int .i64 0), .lit (.int .i64 0), .lit (.int .i64 1), .lit (.int .i64 0), .lit (.int .i64 0)], .agg [.lit (.int .i64 0), .lit (.int .i64 (-1)), .lit (.int .i64 1), .lit (.int .i64 0), .lit (.int .i64 0), .lit (.int .i64 0)], .agg [.lit (.int .i64 (-1)), .lit (.int .i64 0), .lit (.int .i64 0), .lit (.int .i64 (-1)), .lit (.int .i64 0), .lit (.int .i64 0)], .agg [.lit (.int .i64 0), .lit (.int .i64 1), .lit (.int .i64 (-1)), .lit (.int .i64 0), .lit (.int .i64 0), .lit (.int .i64 0)], .agg [.lit (.int .i64 1), .lit (.int .i64 0), .lit (.int .i64 0), .lit (.int .i64 (-1)), .lit (.int .i64 0), .lit (.int .i64 0)], .agg [.lit (.int .i64 (-1)), .lit (.int .i64 0), .lit (.int .i64 0), .lit (.int .i64 1), .lit (.int .i64 0), .lit (.int .i64 0)], .agg [.lit (.int .i64 0), .lit (.int .i64 1), .lit (.int .i64 1), .lit (.int .i64 0), .lit (.int .i64 0), .lit (.int .i64 0)], .agg [.lit (.int .i64 0), .lit (.int .i64 (-1)), .lit (.int .i64 (-1)), .lit (.int .i64 0), .lit (.int .i64 0), .lit (.int .i64 0)]]
/-- One of Go's own tables, pinned by name: the form's constant. -/
def laid_unicode_utf8_first : DataW Unit := Go.Pinned.utf8First

/-- 'encausticlaw06.PatternSymmetries': WHATEVER THE INPUT: true; the input reads as it did. -/
def patternSymmetriesSpec : ChangeSpec := { name := "patternSymmetries", fn := fun _ => fun
  | [d] => { results := [.lit (.bool true)], args := [d] }
  | _ => none }
def patternSymmetriesRow : OpenClaim := { program := "yteibbnmlmbhkpaadoor", sum := "8f02cbac8bb3b9079d5961c69adb2192c7c9e0f2066dedd5560906c1139535ca", func := "encaustic/encausticlaw06.PatternSymmetries", spec := "patternSymmetries", inPlace := ["internal/bytealg.IndexByteString", "internal/bytealg.IndexString"], unfollowed := true, recurses := true, named := ["unicode/utf8.first", "unicode/utf8.acceptRanges", "encaustic/pattern.kinds", "internal/bytealg.MaxLen"], apart := false, laid := [("unicode/utf8.acceptRanges", laid_unicode_utf8_acceptRanges), ("encaustic/pattern.kinds", laid_encaustic_pattern_kinds), ("unicode/utf8.first", laid_unicode_utf8_first)] }
def PatternSymmetriesSaid : Prop := patternSymmetriesRow.holds Tryd.pinned (OpenSpec.ofChange patternSymmetriesSpec)

/-- ITS FALSE NEIGHBOUR: 'it returns false'. Refute it at one input. -/
def patternSymmetriesWrong : ChangeSpec := { name := "patternSymmetries", fn := fun _ => fun
  | [d] => { results := [.lit (.bool false)], args := [d] }
  | _ => none }
def PatternSymmetriesWrongFalsely : Prop := patternSymmetriesRow.holds Tryd.pinned (OpenSpec.ofChange patternSymmetriesWrong)

/-- 'encausticlaw06.PatternBurnside': WHATEVER THE INPUT: true; the input reads as it did. -/
def patternBurnsideSpec : ChangeSpec := { name := "patternBurnside", fn := fun _ => fun
  | [d1, d2] => { results := [.lit (.bool true)], args := [d1, d2] }
  | _ => none }
def patternBurnsideRow : OpenClaim := { program := "yteibbnmlmbhkpaadoor", sum := "8f02cbac8bb3b9079d5961c69adb2192c7c9e0f2066dedd5560906c1139535ca", func := "encaustic/encausticlaw06.PatternBurnside", spec := "patternBurnside", inPlace := ["internal/bytealg.IndexByteString", "internal/bytealg.IndexString"], unfollowed := true, recurses := true, named := ["unicode/utf8.first", "unicode/utf8.acceptRanges", "encaustic/pattern.kinds", "internal/bytealg.MaxLen"], apart := false, laid := [("unicode/utf8.acceptRanges", laid_unicode_utf8_acceptRanges), ("encaustic/pattern.kinds", laid_encaustic_pattern_kinds), ("unicode/utf8.first", laid_unicode_utf8_first)] }
def PatternBurnsideSaid : Prop := patternBurnsideRow.holds Tryd.pinned (OpenSpec.ofChange patternBurnsideSpec)

/-- ITS FALSE NEIGHBOUR: 'it returns false'. Refute it at one input. -/
def patternBurnsideWrong : ChangeSpec := { name := "patternBurnside", fn := fun _ => fun
  | [d1, d2] => { results := [.lit (.bool false)], args := [d1, d2] }
  | _ => none }
def PatternBurnsideWrongFalsely : Prop := patternBurnsideRow.holds Tryd.pinned (OpenSpec.ofChange patternBurnsideWrong)

/-- 'encausticlaw06.PatternGroup': WHATEVER THE INPUT: true; the input reads as it did. -/
def patternGroupSpec : ChangeSpec := { name := "patternGroup", fn := fun _ => fun
  | [d] => { results := [.lit (.bool true)], args := [d] }
  | _ => none }
def patternGroupRow : OpenClaim := { program := "yteibbnmlmbhkpaadoor", sum := "8f02cbac8bb3b9079d5961c69adb2192c7c9e0f2066dedd5560906c1139535ca", func := "encaustic/encausticlaw06.PatternGroup", spec := "patternGroup", inPlace := ["internal/bytealg.IndexByteString", "internal/bytealg.IndexString", "internal/abi.NoEscape"], unfollowed := true, recurses := true, named := ["unicode/utf8.first", "unicode/utf8.acceptRanges", "encaustic/pattern.kinds", "internal/bytealg.MaxLen"], apart := false, laid := [("unicode/utf8.acceptRanges", laid_unicode_utf8_acceptRanges), ("encaustic/pattern.kinds", laid_encaustic_pattern_kinds), ("unicode/utf8.first", laid_unicode_utf8_first)] }
def PatternGroupSaid : Prop := patternGroupRow.holds Tryd.pinned (OpenSpec.ofChange patternGroupSpec)

/-- ITS FALSE NEIGHBOUR: 'it returns false'. Refute it at one input. -/
def patternGroupWrong : ChangeSpec := { name := "patternGroup", fn := fun _ => fun
  | [d] => { results := [.lit (.bool false)], args := [d] }
  | _ => none }
def PatternGroupWrongFalsely : Prop := patternGroupRow.holds Tryd.pinned (OpenSpec.ofChange patternGroupWrong)

/-- 'encausticlaw06.PatternMoves': WHATEVER THE INPUT: true; the input reads as it did. -/
def patternMovesSpec : ChangeSpec := { name := "patternMoves", fn := fun _ => fun
  | [d1, d2, d3] => { results := [.lit (.bool true)], args := [d1, d2, d3] }
  | _ => none }
def patternMovesRow : OpenClaim := { program := "yteibbnmlmbhkpaadoor", sum := "8f02cbac8bb3b9079d5961c69adb2192c7c9e0f2066dedd5560906c1139535ca", func := "encaustic/encausticlaw06.PatternMoves", spec := "patternMoves", inPlace := ["internal/bytealg.IndexByteString", "internal/bytealg.IndexString", "internal/abi.NoEscape"], unfollowed := true, recurses := true, named := ["unicode/utf8.first", "unicode/utf8.acceptRanges", "encaustic/pattern.kinds", "internal/bytealg.MaxLen"], apart := false, laid := [("unicode/utf8.acceptRanges", laid_unicode_utf8_acceptRanges), ("encaustic/pattern.kinds", laid_encaustic_pattern_kinds), ("unicode/utf8.first", laid_unicode_utf8_first)] }
def PatternMovesSaid : Prop := patternMovesRow.holds Tryd.pinned (OpenSpec.ofChange patternMovesSpec)

/-- ITS FALSE NEIGHBOUR: 'it returns false'. Refute it at one input. -/
def patternMovesWrong : ChangeSpec := { name := "patternMoves", fn := fun _ => fun
  | [d1, d2, d3] => { results := [.lit (.bool false)], args := [d1, d2, d3] }
  | _ => none }
def PatternMovesWrongFalsely : Prop := patternMovesRow.holds Tryd.pinned (OpenSpec.ofChange patternMovesWrong)

/-- 'encausticlaw06.PatternSame': WHATEVER THE INPUT: true; the input reads as it did. -/
def patternSameSpec : ChangeSpec := { name := "patternSame", fn := fun _ => fun
  | [d1, d2, d3] => { results := [.lit (.bool true)], args := [d1, d2, d3] }
  | _ => none }
def patternSameRow : OpenClaim := { program := "yteibbnmlmbhkpaadoor", sum := "8f02cbac8bb3b9079d5961c69adb2192c7c9e0f2066dedd5560906c1139535ca", func := "encaustic/encausticlaw06.PatternSame", spec := "patternSame", inPlace := ["internal/bytealg.IndexByteString", "internal/bytealg.IndexString", "internal/abi.NoEscape"], unfollowed := true, recurses := true, named := ["unicode/utf8.first", "unicode/utf8.acceptRanges", "encaustic/pattern.kinds", "internal/bytealg.MaxLen"], apart := false, laid := [("unicode/utf8.acceptRanges", laid_unicode_utf8_acceptRanges), ("encaustic/pattern.kinds", laid_encaustic_pattern_kinds), ("unicode/utf8.first", laid_unicode_utf8_first)] }
def PatternSameSaid : Prop := patternSameRow.holds Tryd.pinned (OpenSpec.ofChange patternSameSpec)

/-- ITS FALSE NEIGHBOUR: 'it returns false'. Refute it at one input. -/
def patternSameWrong : ChangeSpec := { name := "patternSame", fn := fun _ => fun
  | [d1, d2, d3] => { results := [.lit (.bool false)], args := [d1, d2, d3] }
  | _ => none }
def PatternSameWrongFalsely : Prop := patternSameRow.holds Tryd.pinned (OpenSpec.ofChange patternSameWrong)

/- THE SECOND FORM. 'bulk': how many values and letters a reading holds, each counted each time it is reached (what is shared counts as often as it is met; a slice's spare places count too). A statement '..UptoSaid' is the law's where the arguments, and the package variables that the reading takes, are together of bulk at most 1048576: NARROWER than '..Said'. Prove '..Said' where nothing that the law and all that it calls make is longer than what came in: it says more and counts as full. Else prove '..UptoSaid'. A law counts once. -/
mutual
def uptoBulk {H : Type} : DataW H → Nat
  | .lit (.string bytes) => bytes.length + 1
  | .lit _ => 1
  | .nil => 1
  | .ptr d => uptoBulk d + 1
  | .slice elems spare => uptoBulkAll elems + uptoBulkAll spare + 1
  | .agg parts => uptoBulkAll parts + 1
  | .iface _ d => uptoBulk d + 1
  | .map entries => uptoBulkEntries entries + 1
  | .held _ => 1
def uptoBulkAll {H : Type} : List (DataW H) → Nat
  | [] => 0
  | d :: r => uptoBulk d + uptoBulkAll r
def uptoBulkEntries {H : Type} : List (Lit × DataW H) → Nat
  | [] => 0
  | x :: r => uptoBulkEntry x + uptoBulkEntries r
def uptoBulkEntry {H : Type} : Lit × DataW H → Nat
  | (.string bytes, d) => bytes.length + uptoBulk d + 1
  | (_, d) => uptoBulk d + 1
 end
def uptoSmall : (H : Type) → List (DataW H) → Bool := fun _ ds => decide (uptoBulkAll ds ≤ 1048576)
def OpenSpec.upto (s : _root_.Go.ChangeSpec) : _root_.Go.OpenSpec := { _root_.Go.OpenSpec.ofChange s with cond := some uptoSmall }

/-- 'encausticlaw06.PatternSymmetries', WHERE WHAT IT READS IS OF BULK AT MOST 1048576: true; the input reads as it did. -/
def patternSymmetriesUptoRow : OpenClaim := { program := "yteibbnmlmbhkpaadoor", sum := "8f02cbac8bb3b9079d5961c69adb2192c7c9e0f2066dedd5560906c1139535ca", func := "encaustic/encausticlaw06.PatternSymmetries", spec := "patternSymmetries", inPlace := ["internal/bytealg.IndexByteString", "internal/bytealg.IndexString"], unfollowed := true, recurses := true, named := ["unicode/utf8.first", "unicode/utf8.acceptRanges", "encaustic/pattern.kinds", "internal/bytealg.MaxLen"], apart := false, laid := [("unicode/utf8.acceptRanges", laid_unicode_utf8_acceptRanges), ("encaustic/pattern.kinds", laid_encaustic_pattern_kinds), ("unicode/utf8.first", laid_unicode_utf8_first)], narrowed := true }
def PatternSymmetriesUptoSaid : Prop := patternSymmetriesUptoRow.holds Tryd.pinned (OpenSpec.upto patternSymmetriesSpec)

/-- 'encausticlaw06.PatternBurnside', WHERE WHAT IT READS IS OF BULK AT MOST 1048576: true; the input reads as it did. -/
def patternBurnsideUptoRow : OpenClaim := { program := "yteibbnmlmbhkpaadoor", sum := "8f02cbac8bb3b9079d5961c69adb2192c7c9e0f2066dedd5560906c1139535ca", func := "encaustic/encausticlaw06.PatternBurnside", spec := "patternBurnside", inPlace := ["internal/bytealg.IndexByteString", "internal/bytealg.IndexString"], unfollowed := true, recurses := true, named := ["unicode/utf8.first", "unicode/utf8.acceptRanges", "encaustic/pattern.kinds", "internal/bytealg.MaxLen"], apart := false, laid := [("unicode/utf8.acceptRanges", laid_unicode_utf8_acceptRanges), ("encaustic/pattern.kinds", laid_encaustic_pattern_kinds), ("unicode/utf8.first", laid_unicode_utf8_first)], narrowed := true }
def PatternBurnsideUptoSaid : Prop := patternBurnsideUptoRow.holds Tryd.pinned (OpenSpec.upto patternBurnsideSpec)

/-- 'encausticlaw06.PatternGroup', WHERE WHAT IT READS IS OF BULK AT MOST 1048576: true; the input reads as it did. -/
def patternGroupUptoRow : OpenClaim := { program := "yteibbnmlmbhkpaadoor", sum := "8f02cbac8bb3b9079d5961c69adb2192c7c9e0f2066dedd5560906c1139535ca", func := "encaustic/encausticlaw06.PatternGroup", spec := "patternGroup", inPlace := ["internal/bytealg.IndexByteString", "internal/bytealg.IndexString", "internal/abi.NoEscape"], unfollowed := true, recurses := true, named := ["unicode/utf8.first", "unicode/utf8.acceptRanges", "encaustic/pattern.kinds", "internal/bytealg.MaxLen"], apart := false, laid := [("unicode/utf8.acceptRanges", laid_unicode_utf8_acceptRanges), ("encaustic/pattern.kinds", laid_encaustic_pattern_kinds), ("unicode/utf8.first", laid_unicode_utf8_first)], narrowed := true }
def PatternGroupUptoSaid : Prop := patternGroupUptoRow.holds Tryd.pinned (OpenSpec.upto patternGroupSpec)

/-- 'encausticlaw06.PatternMoves', WHERE WHAT IT READS IS OF BULK AT MOST 1048576: true; the input reads as it did. -/
def patternMovesUptoRow : OpenClaim := { program := "yteibbnmlmbhkpaadoor", sum := "8f02cbac8bb3b9079d5961c69adb2192c7c9e0f2066dedd5560906c1139535ca", func := "encaustic/encausticlaw06.PatternMoves", spec := "patternMoves", inPlace := ["internal/bytealg.IndexByteString", "internal/bytealg.IndexString", "internal/abi.NoEscape"], unfollowed := true, recurses := true, named := ["unicode/utf8.first", "unicode/utf8.acceptRanges", "encaustic/pattern.kinds", "internal/bytealg.MaxLen"], apart := false, laid := [("unicode/utf8.acceptRanges", laid_unicode_utf8_acceptRanges), ("encaustic/pattern.kinds", laid_encaustic_pattern_kinds), ("unicode/utf8.first", laid_unicode_utf8_first)], narrowed := true }
def PatternMovesUptoSaid : Prop := patternMovesUptoRow.holds Tryd.pinned (OpenSpec.upto patternMovesSpec)

/-- 'encausticlaw06.PatternSame', WHERE WHAT IT READS IS OF BULK AT MOST 1048576: true; the input reads as it did. -/
def patternSameUptoRow : OpenClaim := { program := "yteibbnmlmbhkpaadoor", sum := "8f02cbac8bb3b9079d5961c69adb2192c7c9e0f2066dedd5560906c1139535ca", func := "encaustic/encausticlaw06.PatternSame", spec := "patternSame", inPlace := ["internal/bytealg.IndexByteString", "internal/bytealg.IndexString", "internal/abi.NoEscape"], unfollowed := true, recurses := true, named := ["unicode/utf8.first", "unicode/utf8.acceptRanges", "encaustic/pattern.kinds", "internal/bytealg.MaxLen"], apart := false, laid := [("unicode/utf8.acceptRanges", laid_unicode_utf8_acceptRanges), ("encaustic/pattern.kinds", laid_encaustic_pattern_kinds), ("unicode/utf8.first", laid_unicode_utf8_first)], narrowed := true }
def PatternSameUptoSaid : Prop := patternSameUptoRow.holds Tryd.pinned (OpenSpec.upto patternSameSpec)

end Rows
end Go.Proofs.YteibbnmlmbhkpaaDoor
