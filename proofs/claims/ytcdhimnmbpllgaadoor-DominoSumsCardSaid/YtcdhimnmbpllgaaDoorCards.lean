/-
  DERIVED. GIVEN WITH THE SEED: THE CARDS: each row of YtcdhimnmbpllgaaDoorRows.lean that lists a variable, with what it lists TIED to the program's text (the seventh form; the later family's looks); each row that meets fmt, with fmt's text TOLD by the authors' own Lean function (tested against real Go, not proved from fmt's source: count such statements apart). THE CARD IS WHAT COUNTS. Prove the row's statement (the work); the ties are given (YtcdhimnmbpllgaaDoorTie.lean); close each card by the builder's one call (the guide's Derived/Test/ToyasCard.lean, 'card_holds'). Laid BY PROGRAM, IN A SANDBOX (cutbox-door.mjs). By AI agents, Wed Nov 11 2026. No macro, syntax, notation, axiom, sorry.
-/
import Derived.Test.YtcdhimnmbpllgaaDoorRows
import GoSem.ClaimSeven
namespace Go.Proofs.YtcdhimnmbpllgaaDoor
namespace Rows

/-- THE TIED CARD OF 'encausticlaw02.DominoCounts'. -/
def dominoCountsCard : Claim7 := { stood := { row := dominoCountsRow, standIns := [], harness := (true, "3e6f9a325a3aa044c0728626b10c377fc98d249fbcff78811511961c8e09466f"), looks := false }, kinds := [], alts := [], laidByText := true, laidKinds := [.data, .widerDeep, .pinned], laidTests := true, laidLooks := .later }
def DominoCountsCardSaid : Prop := Claim7.holds Tryd.pinned (.plain (OpenSpec.ofChange dominoCountsSpec)) dominoCountsCard

/-- THE TIED CARD OF 'encausticlaw02.DominoAztec'. -/
def dominoAztecCard : Claim7 := { stood := { row := dominoAztecRow, standIns := [], harness := (true, "3e6f9a325a3aa044c0728626b10c377fc98d249fbcff78811511961c8e09466f"), looks := false }, kinds := [], alts := [], laidByText := true, laidKinds := [.data, .widerDeep, .pinned], laidTests := true, laidLooks := .later }
def DominoAztecCardSaid : Prop := Claim7.holds Tryd.pinned (.plain (OpenSpec.ofChange dominoAztecSpec)) dominoAztecCard

/-- THE TIED CARD OF 'encausticlaw02.DominoRefutes'. -/
def dominoRefutesCard : Claim7 := { stood := { row := dominoRefutesRow, standIns := [], harness := (true, "3e6f9a325a3aa044c0728626b10c377fc98d249fbcff78811511961c8e09466f"), looks := false }, kinds := [], alts := [], laidByText := true, laidKinds := [.data, .widerDeep, .pinned], laidTests := true, laidLooks := .later }
def DominoRefutesCardSaid : Prop := Claim7.holds Tryd.pinned (.plain (OpenSpec.ofChange dominoRefutesSpec)) dominoRefutesCard

/-- THE TIED CARD OF 'encausticlaw02.DominoKasteleyn'. -/
def dominoKasteleynCard : Claim7 := { stood := { row := dominoKasteleynRow, standIns := [], harness := (true, "3e6f9a325a3aa044c0728626b10c377fc98d249fbcff78811511961c8e09466f"), looks := false }, kinds := [], alts := [], laidByText := true, laidKinds := [.data, .widerDeep, .pinned], laidTests := true, laidLooks := .later }
def DominoKasteleynCardSaid : Prop := Claim7.holds Tryd.pinned (.plain (OpenSpec.ofChange dominoKasteleynSpec)) dominoKasteleynCard

/-- THE TIED CARD OF 'encausticlaw02.DominoTiles'. -/
def dominoTilesCard : Claim7 := { stood := { row := dominoTilesRow, standIns := [], harness := (true, "3e6f9a325a3aa044c0728626b10c377fc98d249fbcff78811511961c8e09466f"), looks := false }, kinds := [], alts := [], laidByText := true, laidKinds := [.data, .widerDeep, .pinned], laidTests := true, laidLooks := .later }
def DominoTilesCardSaid : Prop := Claim7.holds Tryd.pinned (.plain (OpenSpec.ofChange dominoTilesSpec)) dominoTilesCard

/-- THE TIED CARD OF 'encausticlaw02.DominoSums'. -/
def dominoSumsCard : Claim7 := { stood := { row := dominoSumsRow, standIns := [], harness := (true, "3e6f9a325a3aa044c0728626b10c377fc98d249fbcff78811511961c8e09466f"), looks := false }, kinds := [], alts := [], laidByText := true, laidKinds := [.data, .widerDeep, .pinned], laidTests := true, laidLooks := .later }
def DominoSumsCardSaid : Prop := Claim7.holds Tryd.pinned (.plain (OpenSpec.ofChange dominoSumsSpec)) dominoSumsCard

/-- THE TIED CARD OF 'encausticlaw02.DominoHall'. -/
def dominoHallCard : Claim7 := { stood := { row := dominoHallRow, standIns := [], harness := (true, "3e6f9a325a3aa044c0728626b10c377fc98d249fbcff78811511961c8e09466f"), looks := false }, kinds := [], alts := [], laidByText := true, laidKinds := [.data, .widerDeep, .pinned], laidTests := true, laidLooks := .later }
def DominoHallCardSaid : Prop := Claim7.holds Tryd.pinned (.plain (OpenSpec.ofChange dominoHallSpec)) dominoHallCard

/-- THE TIED CARD OF 'encausticlaw02.DominoBoards'. -/
def dominoBoardsCard : Claim7 := { stood := { row := dominoBoardsRow, standIns := [], harness := (true, "3e6f9a325a3aa044c0728626b10c377fc98d249fbcff78811511961c8e09466f"), looks := false }, kinds := [], alts := [], laidByText := true, laidKinds := [.data, .widerDeep, .pinned], laidTests := true, laidLooks := .later }
def DominoBoardsCardSaid : Prop := Claim7.holds Tryd.pinned (.plain (OpenSpec.ofChange dominoBoardsSpec)) dominoBoardsCard

/-- THE SECOND FORM's CARD OF 'encausticlaw02.DominoCounts'. -/
def dominoCountsUptoCard : Claim7 := { stood := { row := dominoCountsUptoRow, standIns := [], harness := (true, "3e6f9a325a3aa044c0728626b10c377fc98d249fbcff78811511961c8e09466f"), looks := false }, kinds := [], alts := [], laidByText := true, laidKinds := [.data, .widerDeep, .pinned], laidTests := true, laidLooks := .later }
def DominoCountsUptoCardSaid : Prop := Claim7.holds Tryd.pinned (.plain (OpenSpec.upto dominoCountsSpec)) dominoCountsUptoCard

/-- THE SECOND FORM's CARD OF 'encausticlaw02.DominoAztec'. -/
def dominoAztecUptoCard : Claim7 := { stood := { row := dominoAztecUptoRow, standIns := [], harness := (true, "3e6f9a325a3aa044c0728626b10c377fc98d249fbcff78811511961c8e09466f"), looks := false }, kinds := [], alts := [], laidByText := true, laidKinds := [.data, .widerDeep, .pinned], laidTests := true, laidLooks := .later }
def DominoAztecUptoCardSaid : Prop := Claim7.holds Tryd.pinned (.plain (OpenSpec.upto dominoAztecSpec)) dominoAztecUptoCard

/-- THE SECOND FORM's CARD OF 'encausticlaw02.DominoRefutes'. -/
def dominoRefutesUptoCard : Claim7 := { stood := { row := dominoRefutesUptoRow, standIns := [], harness := (true, "3e6f9a325a3aa044c0728626b10c377fc98d249fbcff78811511961c8e09466f"), looks := false }, kinds := [], alts := [], laidByText := true, laidKinds := [.data, .widerDeep, .pinned], laidTests := true, laidLooks := .later }
def DominoRefutesUptoCardSaid : Prop := Claim7.holds Tryd.pinned (.plain (OpenSpec.upto dominoRefutesSpec)) dominoRefutesUptoCard

/-- THE SECOND FORM's CARD OF 'encausticlaw02.DominoKasteleyn'. -/
def dominoKasteleynUptoCard : Claim7 := { stood := { row := dominoKasteleynUptoRow, standIns := [], harness := (true, "3e6f9a325a3aa044c0728626b10c377fc98d249fbcff78811511961c8e09466f"), looks := false }, kinds := [], alts := [], laidByText := true, laidKinds := [.data, .widerDeep, .pinned], laidTests := true, laidLooks := .later }
def DominoKasteleynUptoCardSaid : Prop := Claim7.holds Tryd.pinned (.plain (OpenSpec.upto dominoKasteleynSpec)) dominoKasteleynUptoCard

/-- THE SECOND FORM's CARD OF 'encausticlaw02.DominoTiles'. -/
def dominoTilesUptoCard : Claim7 := { stood := { row := dominoTilesUptoRow, standIns := [], harness := (true, "3e6f9a325a3aa044c0728626b10c377fc98d249fbcff78811511961c8e09466f"), looks := false }, kinds := [], alts := [], laidByText := true, laidKinds := [.data, .widerDeep, .pinned], laidTests := true, laidLooks := .later }
def DominoTilesUptoCardSaid : Prop := Claim7.holds Tryd.pinned (.plain (OpenSpec.upto dominoTilesSpec)) dominoTilesUptoCard

/-- THE SECOND FORM's CARD OF 'encausticlaw02.DominoSums'. -/
def dominoSumsUptoCard : Claim7 := { stood := { row := dominoSumsUptoRow, standIns := [], harness := (true, "3e6f9a325a3aa044c0728626b10c377fc98d249fbcff78811511961c8e09466f"), looks := false }, kinds := [], alts := [], laidByText := true, laidKinds := [.data, .widerDeep, .pinned], laidTests := true, laidLooks := .later }
def DominoSumsUptoCardSaid : Prop := Claim7.holds Tryd.pinned (.plain (OpenSpec.upto dominoSumsSpec)) dominoSumsUptoCard

/-- THE SECOND FORM's CARD OF 'encausticlaw02.DominoHall'. -/
def dominoHallUptoCard : Claim7 := { stood := { row := dominoHallUptoRow, standIns := [], harness := (true, "3e6f9a325a3aa044c0728626b10c377fc98d249fbcff78811511961c8e09466f"), looks := false }, kinds := [], alts := [], laidByText := true, laidKinds := [.data, .widerDeep, .pinned], laidTests := true, laidLooks := .later }
def DominoHallUptoCardSaid : Prop := Claim7.holds Tryd.pinned (.plain (OpenSpec.upto dominoHallSpec)) dominoHallUptoCard

/-- THE SECOND FORM's CARD OF 'encausticlaw02.DominoBoards'. -/
def dominoBoardsUptoCard : Claim7 := { stood := { row := dominoBoardsUptoRow, standIns := [], harness := (true, "3e6f9a325a3aa044c0728626b10c377fc98d249fbcff78811511961c8e09466f"), looks := false }, kinds := [], alts := [], laidByText := true, laidKinds := [.data, .widerDeep, .pinned], laidTests := true, laidLooks := .later }
def DominoBoardsUptoCardSaid : Prop := Claim7.holds Tryd.pinned (.plain (OpenSpec.upto dominoBoardsSpec)) dominoBoardsUptoCard
end Rows
end Go.Proofs.YtcdhimnmbpllgaaDoor
