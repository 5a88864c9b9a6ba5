/-
  NARROWER THAN 'FOR EVERY INPUT', by the rows' own cells (each row's printed sentence says how): DominoCounts: laid · DominoAztec: laid · DominoRefutes: laid · DominoKasteleyn: laid · DominoTiles: laid · DominoSums: laid · DominoHall: laid · DominoBoards: laid.
  DERIVED. THE GIVEN ROWS OF THIS SEAT. 8 by the template 'for every input the law returns true; each argument reads behind the call as it read before'; 0 by the template 'total and deterministic' (their statements: YtcdhimnmbpllgaaDoorTotals.lean).
  GIVEN WITH THE SEED: the statements are not yours to turn. If you find one false, say at which input.
  Laid BY PROGRAM, IN A SANDBOX (cutbox-rows.mjs): the forced cells as the released guide's own fill.sh prints them over the translation 51cb4890d5e0fe9d… (all of the seat's roots in one cut). By AI agents, Wed Nov 11 2026. No macro, syntax, notation, axiom, sorry.
-/
import Derived.Test.YtcdhimnmbpllgaaDoorChecked
import GoSem.PinnedTables
import GoSem.Claim
import GoSem.ClaimJoined
import GoSem.ClaimMapViews
import Derived.JoinedTies
import Derived.KernelRfl
namespace Go.Proofs.YtcdhimnmbpllgaaDoor
/- THE CELL 'sum', in the pinned program and in every row, IS THE sha256 OF THE DUMP (.gsa) THAT YtcdhimnmbpllgaaDoorProg.lean LOADS. Nothing in Lean hashes anything: it is a label: what it is worth is what the hold of that sum in a sandbox is worth. -/
noncomputable def Tryd.pinned : Pinned := { name := "ytcdhimnmbpllgaadoor", sum := "51cb4890d5e0fe9da3aa04a8bd9e528a6958056f7f8e7fae12e5dd8b380c0e3e", checked := Tryd.checked }
namespace Rows
def none {H : Type} : Left H := { results := [], args := [] }

/- WHAT THE LISTED PACKAGE-LEVEL VARIABLES READ AS WHEN THE CALL BEGINS. Each datum BY PROGRAM (the guide's laid-datum.mjs) off the statement by which the dump's own 'gosem.cut.vars' lays the variable. In a bare row this is a premise. The card (YtcdhimnmbpllgaaDoorCards.lean) ties it to the program's text. -/
def laid_unicode_utf8_acceptRanges {H : Type} : DataW H := .agg [.agg [.lit (.int .u8 128), .lit (.int .u8 191)], .agg [.lit (.int .u8 160), .lit (.int .u8 191)], .agg [.lit (.int .u8 128), .lit (.int .u8 159)], .agg [.lit (.int .u8 144), .lit (.int .u8 191)], .agg [.lit (.int .u8 128), .lit (.int .u8 143)], .agg [.lit (.int .u8 0), .lit (.int .u8 0)], .agg [.lit (.int .u8 0), .lit (.int .u8 0)], .agg [.lit (.int .u8 0), .lit (.int .u8 0)], .agg [.lit (.int .u8 0), .lit (.int .u8 0)], .agg [.lit (.int .u8 0), .lit (.int .u8 0)], .agg [.lit (.int .u8 0), .lit (.int .u8 0)], .agg [.lit (.int .u8 0), .lit (.int .u8 0)], .agg [.lit (.int .u8 0), .lit (.int .u8 0)], .agg [.lit (.int .u8 0), .lit (.int .u8 0)], .agg [.lit (.int .u8 0), .lit (.int .u8 0)], .agg [.lit (.int .u8 0), .lit (.int .u8 0)]]
def laid_encaustic_domino_four {H : Type} : DataW H := .agg [.agg [.lit (.int .i64 0), .lit (.int .i64 (-1))], .agg [.lit (.int .i64 (-1)), .lit (.int .i64 0)], .agg [.lit (.int .i64 1), .lit (.int .i64 0)], .agg [.lit (.int .i64 0), .lit (.int .i64 1)]]
/-- One of Go's own tables, pinned by name: the form's constant. -/
def laid_unicode_utf8_first : DataW Unit := Go.Pinned.utf8First

/-- 'encausticlaw02.DominoCounts': WHATEVER THE INPUT: true; the input reads as it did. -/
def dominoCountsSpec : ChangeSpec := { name := "dominoCounts", fn := fun _ => fun
  | [d] => { results := [.lit (.bool true)], args := [d] }
  | _ => none }
def dominoCountsRow : OpenClaim := { program := "ytcdhimnmbpllgaadoor", sum := "51cb4890d5e0fe9da3aa04a8bd9e528a6958056f7f8e7fae12e5dd8b380c0e3e", func := "encaustic/encausticlaw02.DominoCounts", spec := "dominoCounts", inPlace := ["internal/bytealg.IndexByteString", "internal/bytealg.IndexString"], unfollowed := true, recurses := true, named := ["unicode/utf8.first", "unicode/utf8.acceptRanges", "encaustic/domino.four", "internal/bytealg.MaxLen"], plainKeys := false, apart := false, laid := [("unicode/utf8.acceptRanges", laid_unicode_utf8_acceptRanges), ("encaustic/domino.four", laid_encaustic_domino_four), ("unicode/utf8.first", laid_unicode_utf8_first)] }
def DominoCountsSaid : Prop := dominoCountsRow.holds Tryd.pinned (OpenSpec.ofChange dominoCountsSpec)

/-- ITS FALSE NEIGHBOUR: 'it returns false'. Refute it at one input. -/
def dominoCountsWrong : ChangeSpec := { name := "dominoCounts", fn := fun _ => fun
  | [d] => { results := [.lit (.bool false)], args := [d] }
  | _ => none }
def DominoCountsWrongFalsely : Prop := dominoCountsRow.holds Tryd.pinned (OpenSpec.ofChange dominoCountsWrong)

/-- 'encausticlaw02.DominoAztec': WHATEVER THE INPUT: true; the input reads as it did. -/
def dominoAztecSpec : ChangeSpec := { name := "dominoAztec", fn := fun _ => fun
  | [d] => { results := [.lit (.bool true)], args := [d] }
  | _ => none }
def dominoAztecRow : OpenClaim := { program := "ytcdhimnmbpllgaadoor", sum := "51cb4890d5e0fe9da3aa04a8bd9e528a6958056f7f8e7fae12e5dd8b380c0e3e", func := "encaustic/encausticlaw02.DominoAztec", spec := "dominoAztec", inPlace := ["internal/bytealg.IndexByteString", "internal/bytealg.IndexString"], unfollowed := true, recurses := true, named := ["unicode/utf8.first", "unicode/utf8.acceptRanges", "encaustic/domino.four", "internal/bytealg.MaxLen"], plainKeys := false, apart := false, laid := [("unicode/utf8.acceptRanges", laid_unicode_utf8_acceptRanges), ("encaustic/domino.four", laid_encaustic_domino_four), ("unicode/utf8.first", laid_unicode_utf8_first)] }
def DominoAztecSaid : Prop := dominoAztecRow.holds Tryd.pinned (OpenSpec.ofChange dominoAztecSpec)

/-- ITS FALSE NEIGHBOUR: 'it returns false'. Refute it at one input. -/
def dominoAztecWrong : ChangeSpec := { name := "dominoAztec", fn := fun _ => fun
  | [d] => { results := [.lit (.bool false)], args := [d] }
  | _ => none }
def DominoAztecWrongFalsely : Prop := dominoAztecRow.holds Tryd.pinned (OpenSpec.ofChange dominoAztecWrong)

/-- 'encausticlaw02.DominoRefutes': WHATEVER THE INPUT: true; the input reads as it did. -/
def dominoRefutesSpec : ChangeSpec := { name := "dominoRefutes", fn := fun _ => fun
  | [d1, d2] => { results := [.lit (.bool true)], args := [d1, d2] }
  | _ => none }
def dominoRefutesRow : OpenClaim := { program := "ytcdhimnmbpllgaadoor", sum := "51cb4890d5e0fe9da3aa04a8bd9e528a6958056f7f8e7fae12e5dd8b380c0e3e", func := "encaustic/encausticlaw02.DominoRefutes", spec := "dominoRefutes", inPlace := ["internal/bytealg.IndexByteString", "internal/bytealg.IndexString"], unfollowed := true, recurses := true, named := ["unicode/utf8.first", "unicode/utf8.acceptRanges", "encaustic/domino.four", "internal/bytealg.MaxLen"], plainKeys := false, apart := false, laid := [("unicode/utf8.acceptRanges", laid_unicode_utf8_acceptRanges), ("encaustic/domino.four", laid_encaustic_domino_four), ("unicode/utf8.first", laid_unicode_utf8_first)] }
def DominoRefutesSaid : Prop := dominoRefutesRow.holds Tryd.pinned (OpenSpec.ofChange dominoRefutesSpec)

/-- ITS FALSE NEIGHBOUR: 'it returns false'. Refute it at one input. -/
def dominoRefutesWrong : ChangeSpec := { name := "dominoRefutes", fn := fun _ => fun
  | [d1, d2] => { results := [.lit (.bool false)], args := [d1, d2] }
  | _ => none }
def DominoRefutesWrongFalsely : Prop := dominoRefutesRow.holds Tryd.pinned (OpenSpec.ofChange dominoRefutesWrong)

/-- 'encausticlaw02.DominoKasteleyn': WHATEVER THE INPUT: true; the input reads as it did. -/
def dominoKasteleynSpec : ChangeSpec := { name := "dominoKasteleyn", fn := fun _ => fun
  | [d] => { results := [.lit (.bool true)], args := [d] }
  | _ => none }
def dominoKasteleynRow : OpenClaim := { program := "ytcdhimnmbpllgaadoor", sum := "51cb4890d5e0fe9da3aa04a8bd9e528a6958056f7f8e7fae12e5dd8b380c0e3e", func := "encaustic/encausticlaw02.DominoKasteleyn", spec := "dominoKasteleyn", inPlace := ["internal/bytealg.IndexByteString", "internal/bytealg.IndexString"], unfollowed := true, recurses := true, named := ["unicode/utf8.first", "unicode/utf8.acceptRanges", "encaustic/domino.four", "internal/bytealg.MaxLen"], plainKeys := false, apart := false, laid := [("unicode/utf8.acceptRanges", laid_unicode_utf8_acceptRanges), ("encaustic/domino.four", laid_encaustic_domino_four), ("unicode/utf8.first", laid_unicode_utf8_first)] }
def DominoKasteleynSaid : Prop := dominoKasteleynRow.holds Tryd.pinned (OpenSpec.ofChange dominoKasteleynSpec)

/-- ITS FALSE NEIGHBOUR: 'it returns false'. Refute it at one input. -/
def dominoKasteleynWrong : ChangeSpec := { name := "dominoKasteleyn", fn := fun _ => fun
  | [d] => { results := [.lit (.bool false)], args := [d] }
  | _ => none }
def DominoKasteleynWrongFalsely : Prop := dominoKasteleynRow.holds Tryd.pinned (OpenSpec.ofChange dominoKasteleynWrong)

/-- 'encausticlaw02.DominoTiles': WHATEVER THE INPUT: true; the input reads as it did. -/
def dominoTilesSpec : ChangeSpec := { name := "dominoTiles", fn := fun _ => fun
  | [d1, d2] => { results := [.lit (.bool true)], args := [d1, d2] }
  | _ => none }
def dominoTilesRow : OpenClaim := { program := "ytcdhimnmbpllgaadoor", sum := "51cb4890d5e0fe9da3aa04a8bd9e528a6958056f7f8e7fae12e5dd8b380c0e3e", func := "encaustic/encausticlaw02.DominoTiles", spec := "dominoTiles", inPlace := ["internal/bytealg.IndexByteString", "internal/bytealg.IndexString"], unfollowed := true, recurses := true, named := ["unicode/utf8.first", "unicode/utf8.acceptRanges", "encaustic/domino.four", "internal/bytealg.MaxLen"], plainKeys := false, apart := false, laid := [("unicode/utf8.acceptRanges", laid_unicode_utf8_acceptRanges), ("encaustic/domino.four", laid_encaustic_domino_four), ("unicode/utf8.first", laid_unicode_utf8_first)] }
def DominoTilesSaid : Prop := dominoTilesRow.holds Tryd.pinned (OpenSpec.ofChange dominoTilesSpec)

/-- ITS FALSE NEIGHBOUR: 'it returns false'. Refute it at one input. -/
def dominoTilesWrong : ChangeSpec := { name := "dominoTiles", fn := fun _ => fun
  | [d1, d2] => { results := [.lit (.bool false)], args := [d1, d2] }
  | _ => none }
def DominoTilesWrongFalsely : Prop := dominoTilesRow.holds Tryd.pinned (OpenSpec.ofChange dominoTilesWrong)

/-- 'encausticlaw02.DominoSums': WHATEVER THE INPUT: true; the input reads as it did. -/
def dominoSumsSpec : ChangeSpec := { name := "dominoSums", fn := fun _ => fun
  | [d] => { results := [.lit (.bool true)], args := [d] }
  | _ => none }
def dominoSumsRow : OpenClaim := { program := "ytcdhimnmbpllgaadoor", sum := "51cb4890d5e0fe9da3aa04a8bd9e528a6958056f7f8e7fae12e5dd8b380c0e3e", func := "encaustic/encausticlaw02.DominoSums", spec := "dominoSums", inPlace := ["internal/bytealg.IndexByteString", "internal/bytealg.IndexString", "internal/abi.NoEscape"], unfollowed := true, recurses := true, named := ["unicode/utf8.first", "unicode/utf8.acceptRanges", "encaustic/domino.four", "internal/bytealg.MaxLen"], plainKeys := false, apart := false, laid := [("unicode/utf8.acceptRanges", laid_unicode_utf8_acceptRanges), ("encaustic/domino.four", laid_encaustic_domino_four), ("unicode/utf8.first", laid_unicode_utf8_first)] }
def DominoSumsSaid : Prop := dominoSumsRow.holds Tryd.pinned (OpenSpec.ofChange dominoSumsSpec)

/-- ITS FALSE NEIGHBOUR: 'it returns false'. Refute it at one input. -/
def dominoSumsWrong : ChangeSpec := { name := "dominoSums", fn := fun _ => fun
  | [d] => { results := [.lit (.bool false)], args := [d] }
  | _ => none }
def DominoSumsWrongFalsely : Prop := dominoSumsRow.holds Tryd.pinned (OpenSpec.ofChange dominoSumsWrong)

/-- 'encausticlaw02.DominoHall': WHATEVER THE INPUT: true; the input reads as it did. -/
def dominoHallSpec : ChangeSpec := { name := "dominoHall", fn := fun _ => fun
  | [d1, d2] => { results := [.lit (.bool true)], args := [d1, d2] }
  | _ => none }
def dominoHallRow : OpenClaim := { program := "ytcdhimnmbpllgaadoor", sum := "51cb4890d5e0fe9da3aa04a8bd9e528a6958056f7f8e7fae12e5dd8b380c0e3e", func := "encaustic/encausticlaw02.DominoHall", spec := "dominoHall", inPlace := ["internal/bytealg.IndexByteString", "internal/bytealg.IndexString"], unfollowed := true, recurses := true, named := ["unicode/utf8.first", "unicode/utf8.acceptRanges", "encaustic/domino.four", "internal/bytealg.MaxLen"], plainKeys := false, apart := false, laid := [("unicode/utf8.acceptRanges", laid_unicode_utf8_acceptRanges), ("encaustic/domino.four", laid_encaustic_domino_four), ("unicode/utf8.first", laid_unicode_utf8_first)] }
def DominoHallSaid : Prop := dominoHallRow.holds Tryd.pinned (OpenSpec.ofChange dominoHallSpec)

/-- ITS FALSE NEIGHBOUR: 'it returns false'. Refute it at one input. -/
def dominoHallWrong : ChangeSpec := { name := "dominoHall", fn := fun _ => fun
  | [d1, d2] => { results := [.lit (.bool false)], args := [d1, d2] }
  | _ => none }
def DominoHallWrongFalsely : Prop := dominoHallRow.holds Tryd.pinned (OpenSpec.ofChange dominoHallWrong)

/-- 'encausticlaw02.DominoBoards': WHATEVER THE INPUT: true; the input reads as it did. -/
def dominoBoardsSpec : ChangeSpec := { name := "dominoBoards", fn := fun _ => fun
  | [d1, d2] => { results := [.lit (.bool true)], args := [d1, d2] }
  | _ => none }
def dominoBoardsRow : OpenClaim := { program := "ytcdhimnmbpllgaadoor", sum := "51cb4890d5e0fe9da3aa04a8bd9e528a6958056f7f8e7fae12e5dd8b380c0e3e", func := "encaustic/encausticlaw02.DominoBoards", spec := "dominoBoards", inPlace := ["internal/bytealg.IndexByteString", "internal/bytealg.IndexString", "internal/abi.NoEscape"], unfollowed := true, recurses := true, named := ["unicode/utf8.first", "unicode/utf8.acceptRanges", "encaustic/domino.four", "internal/bytealg.MaxLen"], plainKeys := false, apart := false, laid := [("unicode/utf8.acceptRanges", laid_unicode_utf8_acceptRanges), ("encaustic/domino.four", laid_encaustic_domino_four), ("unicode/utf8.first", laid_unicode_utf8_first)] }
def DominoBoardsSaid : Prop := dominoBoardsRow.holds Tryd.pinned (OpenSpec.ofChange dominoBoardsSpec)

/-- ITS FALSE NEIGHBOUR: 'it returns false'. Refute it at one input. -/
def dominoBoardsWrong : ChangeSpec := { name := "dominoBoards", fn := fun _ => fun
  | [d1, d2] => { results := [.lit (.bool false)], args := [d1, d2] }
  | _ => none }
def DominoBoardsWrongFalsely : Prop := dominoBoardsRow.holds Tryd.pinned (OpenSpec.ofChange dominoBoardsWrong)

/- THE SECOND FORM. 'bulk': how many values and letters a reading holds, each counted each time it is reached (what is shared counts as often as it is met; a slice's spare places count too). A statement '..UptoSaid' is the law's where the arguments, and the package variables that the reading takes, are together of bulk at most 1048576: NARROWER than '..Said'. Prove '..Said' where nothing that the law and all that it calls make is longer than what came in: it says more and counts as full. Else prove '..UptoSaid'. A law counts once. -/
mutual
def uptoBulk {H : Type} : DataW H → Nat
  | .lit (.string bytes) => bytes.length + 1
  | .lit _ => 1
  | .nil => 1
  | .ptr d => uptoBulk d + 1
  | .slice elems spare => uptoBulkAll elems + uptoBulkAll spare + 1
  | .agg parts => uptoBulkAll parts + 1
  | .iface _ d => uptoBulk d + 1
  | .map entries => uptoBulkEntries entries + 1
  | .held _ => 1
def uptoBulkAll {H : Type} : List (DataW H) → Nat
  | [] => 0
  | d :: r => uptoBulk d + uptoBulkAll r
def uptoBulkEntries {H : Type} : List (Lit × DataW H) → Nat
  | [] => 0
  | x :: r => uptoBulkEntry x + uptoBulkEntries r
def uptoBulkEntry {H : Type} : Lit × DataW H → Nat
  | (.string bytes, d) => bytes.length + uptoBulk d + 1
  | (_, d) => uptoBulk d + 1
 end
def uptoSmall : (H : Type) → List (DataW H) → Bool := fun _ ds => decide (uptoBulkAll ds ≤ 1048576)
def OpenSpec.upto (s : _root_.Go.ChangeSpec) : _root_.Go.OpenSpec := { _root_.Go.OpenSpec.ofChange s with cond := some uptoSmall }

/-- 'encausticlaw02.DominoCounts', WHERE WHAT IT READS IS OF BULK AT MOST 1048576: true; the input reads as it did. -/
def dominoCountsUptoRow : OpenClaim := { program := "ytcdhimnmbpllgaadoor", sum := "51cb4890d5e0fe9da3aa04a8bd9e528a6958056f7f8e7fae12e5dd8b380c0e3e", func := "encaustic/encausticlaw02.DominoCounts", spec := "dominoCounts", inPlace := ["internal/bytealg.IndexByteString", "internal/bytealg.IndexString"], unfollowed := true, recurses := true, named := ["unicode/utf8.first", "unicode/utf8.acceptRanges", "encaustic/domino.four", "internal/bytealg.MaxLen"], plainKeys := false, apart := false, laid := [("unicode/utf8.acceptRanges", laid_unicode_utf8_acceptRanges), ("encaustic/domino.four", laid_encaustic_domino_four), ("unicode/utf8.first", laid_unicode_utf8_first)], narrowed := true }
def DominoCountsUptoSaid : Prop := dominoCountsUptoRow.holds Tryd.pinned (OpenSpec.upto dominoCountsSpec)

/-- 'encausticlaw02.DominoAztec', WHERE WHAT IT READS IS OF BULK AT MOST 1048576: true; the input reads as it did. -/
def dominoAztecUptoRow : OpenClaim := { program := "ytcdhimnmbpllgaadoor", sum := "51cb4890d5e0fe9da3aa04a8bd9e528a6958056f7f8e7fae12e5dd8b380c0e3e", func := "encaustic/encausticlaw02.DominoAztec", spec := "dominoAztec", inPlace := ["internal/bytealg.IndexByteString", "internal/bytealg.IndexString"], unfollowed := true, recurses := true, named := ["unicode/utf8.first", "unicode/utf8.acceptRanges", "encaustic/domino.four", "internal/bytealg.MaxLen"], plainKeys := false, apart := false, laid := [("unicode/utf8.acceptRanges", laid_unicode_utf8_acceptRanges), ("encaustic/domino.four", laid_encaustic_domino_four), ("unicode/utf8.first", laid_unicode_utf8_first)], narrowed := true }
def DominoAztecUptoSaid : Prop := dominoAztecUptoRow.holds Tryd.pinned (OpenSpec.upto dominoAztecSpec)

/-- 'encausticlaw02.DominoRefutes', WHERE WHAT IT READS IS OF BULK AT MOST 1048576: true; the input reads as it did. -/
def dominoRefutesUptoRow : OpenClaim := { program := "ytcdhimnmbpllgaadoor", sum := "51cb4890d5e0fe9da3aa04a8bd9e528a6958056f7f8e7fae12e5dd8b380c0e3e", func := "encaustic/encausticlaw02.DominoRefutes", spec := "dominoRefutes", inPlace := ["internal/bytealg.IndexByteString", "internal/bytealg.IndexString"], unfollowed := true, recurses := true, named := ["unicode/utf8.first", "unicode/utf8.acceptRanges", "encaustic/domino.four", "internal/bytealg.MaxLen"], plainKeys := false, apart := false, laid := [("unicode/utf8.acceptRanges", laid_unicode_utf8_acceptRanges), ("encaustic/domino.four", laid_encaustic_domino_four), ("unicode/utf8.first", laid_unicode_utf8_first)], narrowed := true }
def DominoRefutesUptoSaid : Prop := dominoRefutesUptoRow.holds Tryd.pinned (OpenSpec.upto dominoRefutesSpec)

/-- 'encausticlaw02.DominoKasteleyn', WHERE WHAT IT READS IS OF BULK AT MOST 1048576: true; the input reads as it did. -/
def dominoKasteleynUptoRow : OpenClaim := { program := "ytcdhimnmbpllgaadoor", sum := "51cb4890d5e0fe9da3aa04a8bd9e528a6958056f7f8e7fae12e5dd8b380c0e3e", func := "encaustic/encausticlaw02.DominoKasteleyn", spec := "dominoKasteleyn", inPlace := ["internal/bytealg.IndexByteString", "internal/bytealg.IndexString"], unfollowed := true, recurses := true, named := ["unicode/utf8.first", "unicode/utf8.acceptRanges", "encaustic/domino.four", "internal/bytealg.MaxLen"], plainKeys := false, apart := false, laid := [("unicode/utf8.acceptRanges", laid_unicode_utf8_acceptRanges), ("encaustic/domino.four", laid_encaustic_domino_four), ("unicode/utf8.first", laid_unicode_utf8_first)], narrowed := true }
def DominoKasteleynUptoSaid : Prop := dominoKasteleynUptoRow.holds Tryd.pinned (OpenSpec.upto dominoKasteleynSpec)

/-- 'encausticlaw02.DominoTiles', WHERE WHAT IT READS IS OF BULK AT MOST 1048576: true; the input reads as it did. -/
def dominoTilesUptoRow : OpenClaim := { program := "ytcdhimnmbpllgaadoor", sum := "51cb4890d5e0fe9da3aa04a8bd9e528a6958056f7f8e7fae12e5dd8b380c0e3e", func := "encaustic/encausticlaw02.DominoTiles", spec := "dominoTiles", inPlace := ["internal/bytealg.IndexByteString", "internal/bytealg.IndexString"], unfollowed := true, recurses := true, named := ["unicode/utf8.first", "unicode/utf8.acceptRanges", "encaustic/domino.four", "internal/bytealg.MaxLen"], plainKeys := false, apart := false, laid := [("unicode/utf8.acceptRanges", laid_unicode_utf8_acceptRanges), ("encaustic/domino.four", laid_encaustic_domino_four), ("unicode/utf8.first", laid_unicode_utf8_first)], narrowed := true }
def DominoTilesUptoSaid : Prop := dominoTilesUptoRow.holds Tryd.pinned (OpenSpec.upto dominoTilesSpec)

/-- 'encausticlaw02.DominoSums', WHERE WHAT IT READS IS OF BULK AT MOST 1048576: true; the input reads as it did. -/
def dominoSumsUptoRow : OpenClaim := { program := "ytcdhimnmbpllgaadoor", sum := "51cb4890d5e0fe9da3aa04a8bd9e528a6958056f7f8e7fae12e5dd8b380c0e3e", func := "encaustic/encausticlaw02.DominoSums", spec := "dominoSums", inPlace := ["internal/bytealg.IndexByteString", "internal/bytealg.IndexString", "internal/abi.NoEscape"], unfollowed := true, recurses := true, named := ["unicode/utf8.first", "unicode/utf8.acceptRanges", "encaustic/domino.four", "internal/bytealg.MaxLen"], plainKeys := false, apart := false, laid := [("unicode/utf8.acceptRanges", laid_unicode_utf8_acceptRanges), ("encaustic/domino.four", laid_encaustic_domino_four), ("unicode/utf8.first", laid_unicode_utf8_first)], narrowed := true }
def DominoSumsUptoSaid : Prop := dominoSumsUptoRow.holds Tryd.pinned (OpenSpec.upto dominoSumsSpec)

/-- 'encausticlaw02.DominoHall', WHERE WHAT IT READS IS OF BULK AT MOST 1048576: true; the input reads as it did. -/
def dominoHallUptoRow : OpenClaim := { program := "ytcdhimnmbpllgaadoor", sum := "51cb4890d5e0fe9da3aa04a8bd9e528a6958056f7f8e7fae12e5dd8b380c0e3e", func := "encaustic/encausticlaw02.DominoHall", spec := "dominoHall", inPlace := ["internal/bytealg.IndexByteString", "internal/bytealg.IndexString"], unfollowed := true, recurses := true, named := ["unicode/utf8.first", "unicode/utf8.acceptRanges", "encaustic/domino.four", "internal/bytealg.MaxLen"], plainKeys := false, apart := false, laid := [("unicode/utf8.acceptRanges", laid_unicode_utf8_acceptRanges), ("encaustic/domino.four", laid_encaustic_domino_four), ("unicode/utf8.first", laid_unicode_utf8_first)], narrowed := true }
def DominoHallUptoSaid : Prop := dominoHallUptoRow.holds Tryd.pinned (OpenSpec.upto dominoHallSpec)

/-- 'encausticlaw02.DominoBoards', WHERE WHAT IT READS IS OF BULK AT MOST 1048576: true; the input reads as it did. -/
def dominoBoardsUptoRow : OpenClaim := { program := "ytcdhimnmbpllgaadoor", sum := "51cb4890d5e0fe9da3aa04a8bd9e528a6958056f7f8e7fae12e5dd8b380c0e3e", func := "encaustic/encausticlaw02.DominoBoards", spec := "dominoBoards", inPlace := ["internal/bytealg.IndexByteString", "internal/bytealg.IndexString", "internal/abi.NoEscape"], unfollowed := true, recurses := true, named := ["unicode/utf8.first", "unicode/utf8.acceptRanges", "encaustic/domino.four", "internal/bytealg.MaxLen"], plainKeys := false, apart := false, laid := [("unicode/utf8.acceptRanges", laid_unicode_utf8_acceptRanges), ("encaustic/domino.four", laid_encaustic_domino_four), ("unicode/utf8.first", laid_unicode_utf8_first)], narrowed := true }
def DominoBoardsUptoSaid : Prop := dominoBoardsUptoRow.holds Tryd.pinned (OpenSpec.upto dominoBoardsSpec)

end Rows
end Go.Proofs.YtcdhimnmbpllgaaDoor
