/-
  DERIVED. GIVEN WITH THE SEED: THE CARDS: each row of YteibbnmlmbhkpaaDoorRows.lean that lists a variable, with what it lists TIED to the program's text (the seventh form; the later family's looks); each row that meets fmt, with fmt's text TOLD by the authors' own Lean function (tested against real Go, not proved from fmt's source: count such statements apart). THE CARD IS WHAT COUNTS. Prove the row's statement (the work); the ties are given (YteibbnmlmbhkpaaDoorTie.lean); close each card by the builder's one call (the guide's Derived/Test/ToyasCard.lean, 'card_holds'). Laid BY PROGRAM, IN A SANDBOX (cutbox-door.mjs). By AI agents, Wed Nov 11 2026. No macro, syntax, notation, axiom, sorry.
-/
import Derived.Test.YteibbnmlmbhkpaaDoorRows
import GoSem.ClaimSeven
namespace Go.Proofs.YteibbnmlmbhkpaaDoor
namespace Rows

/-- THE TIED CARD OF 'encausticlaw06.PatternSymmetries'. -/
def patternSymmetriesCard : Claim7 := { stood := { row := patternSymmetriesRow, standIns := [], harness := (true, "af83f31c74885a8c6682b5f07e2f002d520def7e98238382468416818df07aab"), looks := false }, kinds := [], alts := [], laidByText := true, laidKinds := [.data, .widerDeep, .pinned], laidTests := true, laidLooks := .later }
def PatternSymmetriesCardSaid : Prop := Claim7.holds Tryd.pinned (.plain (OpenSpec.ofChange patternSymmetriesSpec)) patternSymmetriesCard

/-- THE TIED CARD OF 'encausticlaw06.PatternBurnside'. -/
def patternBurnsideCard : Claim7 := { stood := { row := patternBurnsideRow, standIns := [], harness := (true, "af83f31c74885a8c6682b5f07e2f002d520def7e98238382468416818df07aab"), looks := false }, kinds := [], alts := [], laidByText := true, laidKinds := [.data, .widerDeep, .pinned], laidTests := true, laidLooks := .later }
def PatternBurnsideCardSaid : Prop := Claim7.holds Tryd.pinned (.plain (OpenSpec.ofChange patternBurnsideSpec)) patternBurnsideCard

/-- THE TIED CARD OF 'encausticlaw06.PatternGroup'. -/
def patternGroupCard : Claim7 := { stood := { row := patternGroupRow, standIns := [], harness := (true, "af83f31c74885a8c6682b5f07e2f002d520def7e98238382468416818df07aab"), looks := false }, kinds := [], alts := [], laidByText := true, laidKinds := [.data, .widerDeep, .pinned], laidTests := true, laidLooks := .later }
def PatternGroupCardSaid : Prop := Claim7.holds Tryd.pinned (.plain (OpenSpec.ofChange patternGroupSpec)) patternGroupCard

/-- THE TIED CARD OF 'encausticlaw06.PatternMoves'. -/
def patternMovesCard : Claim7 := { stood := { row := patternMovesRow, standIns := [], harness := (true, "af83f31c74885a8c6682b5f07e2f002d520def7e98238382468416818df07aab"), looks := false }, kinds := [], alts := [], laidByText := true, laidKinds := [.data, .widerDeep, .pinned], laidTests := true, laidLooks := .later }
def PatternMovesCardSaid : Prop := Claim7.holds Tryd.pinned (.plain (OpenSpec.ofChange patternMovesSpec)) patternMovesCard

/-- THE TIED CARD OF 'encausticlaw06.PatternSame'. -/
def patternSameCard : Claim7 := { stood := { row := patternSameRow, standIns := [], harness := (true, "af83f31c74885a8c6682b5f07e2f002d520def7e98238382468416818df07aab"), looks := false }, kinds := [], alts := [], laidByText := true, laidKinds := [.data, .widerDeep, .pinned], laidTests := true, laidLooks := .later }
def PatternSameCardSaid : Prop := Claim7.holds Tryd.pinned (.plain (OpenSpec.ofChange patternSameSpec)) patternSameCard

/-- THE SECOND FORM's CARD OF 'encausticlaw06.PatternSymmetries'. -/
def patternSymmetriesUptoCard : Claim7 := { stood := { row := patternSymmetriesUptoRow, standIns := [], harness := (true, "af83f31c74885a8c6682b5f07e2f002d520def7e98238382468416818df07aab"), looks := false }, kinds := [], alts := [], laidByText := true, laidKinds := [.data, .widerDeep, .pinned], laidTests := true, laidLooks := .later }
def PatternSymmetriesUptoCardSaid : Prop := Claim7.holds Tryd.pinned (.plain (OpenSpec.upto patternSymmetriesSpec)) patternSymmetriesUptoCard

/-- THE SECOND FORM's CARD OF 'encausticlaw06.PatternBurnside'. -/
def patternBurnsideUptoCard : Claim7 := { stood := { row := patternBurnsideUptoRow, standIns := [], harness := (true, "af83f31c74885a8c6682b5f07e2f002d520def7e98238382468416818df07aab"), looks := false }, kinds := [], alts := [], laidByText := true, laidKinds := [.data, .widerDeep, .pinned], laidTests := true, laidLooks := .later }
def PatternBurnsideUptoCardSaid : Prop := Claim7.holds Tryd.pinned (.plain (OpenSpec.upto patternBurnsideSpec)) patternBurnsideUptoCard

/-- THE SECOND FORM's CARD OF 'encausticlaw06.PatternGroup'. -/
def patternGroupUptoCard : Claim7 := { stood := { row := patternGroupUptoRow, standIns := [], harness := (true, "af83f31c74885a8c6682b5f07e2f002d520def7e98238382468416818df07aab"), looks := false }, kinds := [], alts := [], laidByText := true, laidKinds := [.data, .widerDeep, .pinned], laidTests := true, laidLooks := .later }
def PatternGroupUptoCardSaid : Prop := Claim7.holds Tryd.pinned (.plain (OpenSpec.upto patternGroupSpec)) patternGroupUptoCard

/-- THE SECOND FORM's CARD OF 'encausticlaw06.PatternMoves'. -/
def patternMovesUptoCard : Claim7 := { stood := { row := patternMovesUptoRow, standIns := [], harness := (true, "af83f31c74885a8c6682b5f07e2f002d520def7e98238382468416818df07aab"), looks := false }, kinds := [], alts := [], laidByText := true, laidKinds := [.data, .widerDeep, .pinned], laidTests := true, laidLooks := .later }
def PatternMovesUptoCardSaid : Prop := Claim7.holds Tryd.pinned (.plain (OpenSpec.upto patternMovesSpec)) patternMovesUptoCard

/-- THE SECOND FORM's CARD OF 'encausticlaw06.PatternSame'. -/
def patternSameUptoCard : Claim7 := { stood := { row := patternSameUptoRow, standIns := [], harness := (true, "af83f31c74885a8c6682b5f07e2f002d520def7e98238382468416818df07aab"), looks := false }, kinds := [], alts := [], laidByText := true, laidKinds := [.data, .widerDeep, .pinned], laidTests := true, laidLooks := .later }
def PatternSameUptoCardSaid : Prop := Claim7.holds Tryd.pinned (.plain (OpenSpec.upto patternSameSpec)) patternSameUptoCard
end Rows
end Go.Proofs.YteibbnmlmbhkpaaDoor
