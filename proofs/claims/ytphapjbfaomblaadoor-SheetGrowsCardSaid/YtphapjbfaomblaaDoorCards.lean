/-
  DERIVED. GIVEN WITH THE SEED: THE CARDS: each row of YtphapjbfaomblaaDoorRows.lean that lists a variable, with what it lists TIED to the program's text (the seventh form; the later family's looks); each row that meets fmt, with fmt's text TOLD by the authors' own Lean function (tested against real Go, not proved from fmt's source: count such statements apart). THE CARD IS WHAT COUNTS. Prove the row's statement (the work); the ties are given (YtphapjbfaomblaaDoorTie.lean); close each card by the builder's one call (the guide's Derived/Test/ToyasCard.lean, 'card_holds'). Laid BY PROGRAM, IN A SANDBOX (cutbox-door.mjs). By AI agents, Wed Nov 11 2026. No macro, syntax, notation, axiom, sorry.
-/
import Derived.Test.YtphapjbfaomblaaDoorRows
import GoSem.ClaimSeven
namespace Go.Proofs.YtphapjbfaomblaaDoor
namespace Rows

/-- THE TIED CARD OF 'recensionlaw09.WeaveKeeps'. -/
def weaveKeepsCard : Claim7 := { stood := { row := weaveKeepsRow, standIns := [], harness := (true, "913bed680aba06984d21b7975810d23fcda08ea4856558e631f60a5c4c73145b"), looks := false }, kinds := [], alts := [], laidByText := true, laidKinds := [.data, .pinned], laidTests := true, laidLooks := .later }
def WeaveKeepsCardSaid : Prop := Claim7.holds Tryd.pinned (.plain (OpenSpec.ofChange weaveKeepsSpec)) weaveKeepsCard

/-- THE TIED CARD OF 'recensionlaw09.WeaveTurns'. -/
def weaveTurnsCard : Claim7 := { stood := { row := weaveTurnsRow, standIns := [], harness := (true, "913bed680aba06984d21b7975810d23fcda08ea4856558e631f60a5c4c73145b"), looks := false }, kinds := [], alts := [], laidByText := true, laidKinds := [.data, .pinned], laidTests := true, laidLooks := .later }
def WeaveTurnsCardSaid : Prop := Claim7.holds Tryd.pinned (.plain (OpenSpec.ofChange weaveTurnsSpec)) weaveTurnsCard

/-- THE TIED CARD OF 'recensionlaw09.WeaveBehind'. -/
def weaveBehindCard : Claim7 := { stood := { row := weaveBehindRow, standIns := [], harness := (true, "913bed680aba06984d21b7975810d23fcda08ea4856558e631f60a5c4c73145b"), looks := false }, kinds := [], alts := [], laidByText := true, laidKinds := [.data, .pinned], laidTests := true, laidLooks := .later }
def WeaveBehindCardSaid : Prop := Claim7.holds Tryd.pinned (.plain (OpenSpec.ofChange weaveBehindSpec)) weaveBehindCard

/-- THE TIED CARD OF 'recensionlaw09.WeaveParts'. -/
def weavePartsCard : Claim7 := { stood := { row := weavePartsRow, standIns := [], harness := (true, "913bed680aba06984d21b7975810d23fcda08ea4856558e631f60a5c4c73145b"), looks := false }, kinds := [], alts := [], laidByText := true, laidKinds := [.data, .pinned], laidTests := true, laidLooks := .later }
def WeavePartsCardSaid : Prop := Claim7.holds Tryd.pinned (.plain (OpenSpec.ofChange weavePartsSpec)) weavePartsCard

/-- THE TIED CARD OF 'recensionlaw11.SheetGrows'. -/
def sheetGrowsCard : Claim7 := { stood := { row := sheetGrowsRow, standIns := [], harness := (true, "913bed680aba06984d21b7975810d23fcda08ea4856558e631f60a5c4c73145b"), looks := false }, kinds := [], alts := [], laidByText := true, laidKinds := [.data, .pinned], laidTests := true, laidLooks := .later }
def SheetGrowsCardSaid : Prop := Claim7.holds Tryd.pinned (.plain (OpenSpec.ofChange sheetGrowsSpec)) sheetGrowsCard

/-- THE TIED CARD OF 'recensionlaw11.SheetInserts'. -/
def sheetInsertsCard : Claim7 := { stood := { row := sheetInsertsRow, standIns := [], harness := (true, "913bed680aba06984d21b7975810d23fcda08ea4856558e631f60a5c4c73145b"), looks := false }, kinds := [], alts := [], laidByText := true, laidKinds := [.data, .pinned], laidTests := true, laidLooks := .later }
def SheetInsertsCardSaid : Prop := Claim7.holds Tryd.pinned (.plain (OpenSpec.ofChange sheetInsertsSpec)) sheetInsertsCard

/-- THE TIED CARD OF 'recensionlaw11.SheetReturns'. -/
def sheetReturnsCard : Claim7 := { stood := { row := sheetReturnsRow, standIns := [], harness := (true, "913bed680aba06984d21b7975810d23fcda08ea4856558e631f60a5c4c73145b"), looks := false }, kinds := [], alts := [], laidByText := true, laidKinds := [.data, .pinned], laidTests := true, laidLooks := .later }
def SheetReturnsCardSaid : Prop := Claim7.holds Tryd.pinned (.plain (OpenSpec.ofChange sheetReturnsSpec)) sheetReturnsCard

/-- THE TIED CARD OF 'recensionlaw11.SheetTurns'. -/
def sheetTurnsCard : Claim7 := { stood := { row := sheetTurnsRow, standIns := [], harness := (true, "913bed680aba06984d21b7975810d23fcda08ea4856558e631f60a5c4c73145b"), looks := false }, kinds := [], alts := [], laidByText := true, laidKinds := [.data, .pinned], laidTests := true, laidLooks := .later }
def SheetTurnsCardSaid : Prop := Claim7.holds Tryd.pinned (.plain (OpenSpec.ofChange sheetTurnsSpec)) sheetTurnsCard

/-- THE SECOND FORM's CARD OF 'recensionlaw09.WeaveKeeps'. -/
def weaveKeepsUptoCard : Claim7 := { stood := { row := weaveKeepsUptoRow, standIns := [], harness := (true, "913bed680aba06984d21b7975810d23fcda08ea4856558e631f60a5c4c73145b"), looks := false }, kinds := [], alts := [], laidByText := true, laidKinds := [.data, .pinned], laidTests := true, laidLooks := .later }
def WeaveKeepsUptoCardSaid : Prop := Claim7.holds Tryd.pinned (.plain (OpenSpec.upto weaveKeepsSpec)) weaveKeepsUptoCard

/-- THE SECOND FORM's CARD OF 'recensionlaw09.WeaveTurns'. -/
def weaveTurnsUptoCard : Claim7 := { stood := { row := weaveTurnsUptoRow, standIns := [], harness := (true, "913bed680aba06984d21b7975810d23fcda08ea4856558e631f60a5c4c73145b"), looks := false }, kinds := [], alts := [], laidByText := true, laidKinds := [.data, .pinned], laidTests := true, laidLooks := .later }
def WeaveTurnsUptoCardSaid : Prop := Claim7.holds Tryd.pinned (.plain (OpenSpec.upto weaveTurnsSpec)) weaveTurnsUptoCard

/-- THE SECOND FORM's CARD OF 'recensionlaw09.WeaveBehind'. -/
def weaveBehindUptoCard : Claim7 := { stood := { row := weaveBehindUptoRow, standIns := [], harness := (true, "913bed680aba06984d21b7975810d23fcda08ea4856558e631f60a5c4c73145b"), looks := false }, kinds := [], alts := [], laidByText := true, laidKinds := [.data, .pinned], laidTests := true, laidLooks := .later }
def WeaveBehindUptoCardSaid : Prop := Claim7.holds Tryd.pinned (.plain (OpenSpec.upto weaveBehindSpec)) weaveBehindUptoCard

/-- THE SECOND FORM's CARD OF 'recensionlaw09.WeaveParts'. -/
def weavePartsUptoCard : Claim7 := { stood := { row := weavePartsUptoRow, standIns := [], harness := (true, "913bed680aba06984d21b7975810d23fcda08ea4856558e631f60a5c4c73145b"), looks := false }, kinds := [], alts := [], laidByText := true, laidKinds := [.data, .pinned], laidTests := true, laidLooks := .later }
def WeavePartsUptoCardSaid : Prop := Claim7.holds Tryd.pinned (.plain (OpenSpec.upto weavePartsSpec)) weavePartsUptoCard

/-- THE SECOND FORM's CARD OF 'recensionlaw11.SheetGrows'. -/
def sheetGrowsUptoCard : Claim7 := { stood := { row := sheetGrowsUptoRow, standIns := [], harness := (true, "913bed680aba06984d21b7975810d23fcda08ea4856558e631f60a5c4c73145b"), looks := false }, kinds := [], alts := [], laidByText := true, laidKinds := [.data, .pinned], laidTests := true, laidLooks := .later }
def SheetGrowsUptoCardSaid : Prop := Claim7.holds Tryd.pinned (.plain (OpenSpec.upto sheetGrowsSpec)) sheetGrowsUptoCard

/-- THE SECOND FORM's CARD OF 'recensionlaw11.SheetInserts'. -/
def sheetInsertsUptoCard : Claim7 := { stood := { row := sheetInsertsUptoRow, standIns := [], harness := (true, "913bed680aba06984d21b7975810d23fcda08ea4856558e631f60a5c4c73145b"), looks := false }, kinds := [], alts := [], laidByText := true, laidKinds := [.data, .pinned], laidTests := true, laidLooks := .later }
def SheetInsertsUptoCardSaid : Prop := Claim7.holds Tryd.pinned (.plain (OpenSpec.upto sheetInsertsSpec)) sheetInsertsUptoCard

/-- THE SECOND FORM's CARD OF 'recensionlaw11.SheetReturns'. -/
def sheetReturnsUptoCard : Claim7 := { stood := { row := sheetReturnsUptoRow, standIns := [], harness := (true, "913bed680aba06984d21b7975810d23fcda08ea4856558e631f60a5c4c73145b"), looks := false }, kinds := [], alts := [], laidByText := true, laidKinds := [.data, .pinned], laidTests := true, laidLooks := .later }
def SheetReturnsUptoCardSaid : Prop := Claim7.holds Tryd.pinned (.plain (OpenSpec.upto sheetReturnsSpec)) sheetReturnsUptoCard

/-- THE SECOND FORM's CARD OF 'recensionlaw11.SheetTurns'. -/
def sheetTurnsUptoCard : Claim7 := { stood := { row := sheetTurnsUptoRow, standIns := [], harness := (true, "913bed680aba06984d21b7975810d23fcda08ea4856558e631f60a5c4c73145b"), looks := false }, kinds := [], alts := [], laidByText := true, laidKinds := [.data, .pinned], laidTests := true, laidLooks := .later }
def SheetTurnsUptoCardSaid : Prop := Claim7.holds Tryd.pinned (.plain (OpenSpec.upto sheetTurnsSpec)) sheetTurnsUptoCard
end Rows
end Go.Proofs.YtphapjbfaomblaaDoor
