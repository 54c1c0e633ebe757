/-
  DERIVED. GIVEN WITH THE SEED: THE CARDS: each row of YtdkkfjcbdokdjaaDoorRows.lean that lists a variable, with what it lists TIED to the program's text (the seventh form; the later family's looks); each row that meets fmt, with fmt's text TOLD by the authors' own Lean function (tested against real Go, not proved from fmt's source: count such statements apart). THE CARD IS WHAT COUNTS. Prove the row's statement (the work); the ties are given (YtdkkfjcbdokdjaaDoorTie.lean); close each card by the builder's one call (the guide's Derived/Test/ToyasCard.lean, 'card_holds'). Laid BY PROGRAM, IN A SANDBOX (cutbox-door.mjs). By AI agents, Wed Nov 11 2026. No macro, syntax, notation, axiom, sorry.
-/
import Derived.Test.YtdkkfjcbdokdjaaDoorRows
import GoSem.ClaimSeven
namespace Go.Proofs.YtdkkfjcbdokdjaaDoor
namespace Rows

/-- THE TIED CARD OF 'recensionlaw06.PointsSplits'. -/
def pointsSplitsCard : Claim7 := { stood := { row := pointsSplitsRow, standIns := [], harness := (true, "e47400e9d4727ad4df2c323c95e0c8b37a95e91baf3ef499c189cc4efdf62519"), looks := false }, kinds := [], alts := [], laidByText := true, laidKinds := [.data, .pinned], laidTests := true, laidLooks := .later }
def PointsSplitsCardSaid : Prop := Claim7.holds Tryd.pinned (.plain (OpenSpec.ofChange pointsSplitsSpec)) pointsSplitsCard

/-- THE TIED CARD OF 'recensionlaw06.PointsFinds'. -/
def pointsFindsCard : Claim7 := { stood := { row := pointsFindsRow, standIns := [], harness := (true, "e47400e9d4727ad4df2c323c95e0c8b37a95e91baf3ef499c189cc4efdf62519"), looks := false }, kinds := [], alts := [], laidByText := true, laidKinds := [.data, .pinned], laidTests := true, laidLooks := .later }
def PointsFindsCardSaid : Prop := Claim7.holds Tryd.pinned (.plain (OpenSpec.ofChange pointsFindsSpec)) pointsFindsCard

/-- THE TIED CARD OF 'recensionlaw06.PointsReplaces'. -/
def pointsReplacesCard : Claim7 := { stood := { row := pointsReplacesRow, standIns := [], harness := (true, "e47400e9d4727ad4df2c323c95e0c8b37a95e91baf3ef499c189cc4efdf62519"), looks := false }, kinds := [], alts := [], laidByText := true, laidKinds := [.data, .pinned], laidTests := true, laidLooks := .later }
def PointsReplacesCardSaid : Prop := Claim7.holds Tryd.pinned (.plain (OpenSpec.ofChange pointsReplacesSpec)) pointsReplacesCard

/-- THE TIED CARD OF 'recensionlaw06.PointsNames'. -/
def pointsNamesCard : Claim7 := { stood := { row := pointsNamesRow, standIns := [], harness := (true, "e47400e9d4727ad4df2c323c95e0c8b37a95e91baf3ef499c189cc4efdf62519"), looks := false }, kinds := [], alts := [], laidByText := true, laidKinds := [.data, .pinned], laidTests := true, laidLooks := .later }
def PointsNamesCardSaid : Prop := Claim7.holds Tryd.pinned (.plain (OpenSpec.ofChange pointsNamesSpec)) pointsNamesCard

/-- THE TIED CARD OF 'recensionlaw06.PointsCuts'. -/
def pointsCutsCard : Claim7 := { stood := { row := pointsCutsRow, standIns := [], harness := (true, "e47400e9d4727ad4df2c323c95e0c8b37a95e91baf3ef499c189cc4efdf62519"), looks := false }, kinds := [], alts := [], laidByText := true, laidKinds := [.data, .pinned], laidTests := true, laidLooks := .later }
def PointsCutsCardSaid : Prop := Claim7.holds Tryd.pinned (.plain (OpenSpec.ofChange pointsCutsSpec)) pointsCutsCard

/-- THE TIED CARD OF 'recensionlaw06.PointsWhole'. -/
def pointsWholeCard : Claim7 := { stood := { row := pointsWholeRow, standIns := [], harness := (true, "e47400e9d4727ad4df2c323c95e0c8b37a95e91baf3ef499c189cc4efdf62519"), looks := false }, kinds := [], alts := [], laidByText := true, laidKinds := [.data, .pinned], laidTests := true, laidLooks := .later }
def PointsWholeCardSaid : Prop := Claim7.holds Tryd.pinned (.plain (OpenSpec.ofChange pointsWholeSpec)) pointsWholeCard

/-- THE SECOND FORM's CARD OF 'recensionlaw06.PointsSplits'. -/
def pointsSplitsUptoCard : Claim7 := { stood := { row := pointsSplitsUptoRow, standIns := [], harness := (true, "e47400e9d4727ad4df2c323c95e0c8b37a95e91baf3ef499c189cc4efdf62519"), looks := false }, kinds := [], alts := [], laidByText := true, laidKinds := [.data, .pinned], laidTests := true, laidLooks := .later }
def PointsSplitsUptoCardSaid : Prop := Claim7.holds Tryd.pinned (.plain (OpenSpec.upto pointsSplitsSpec)) pointsSplitsUptoCard

/-- THE SECOND FORM's CARD OF 'recensionlaw06.PointsFinds'. -/
def pointsFindsUptoCard : Claim7 := { stood := { row := pointsFindsUptoRow, standIns := [], harness := (true, "e47400e9d4727ad4df2c323c95e0c8b37a95e91baf3ef499c189cc4efdf62519"), looks := false }, kinds := [], alts := [], laidByText := true, laidKinds := [.data, .pinned], laidTests := true, laidLooks := .later }
def PointsFindsUptoCardSaid : Prop := Claim7.holds Tryd.pinned (.plain (OpenSpec.upto pointsFindsSpec)) pointsFindsUptoCard

/-- THE SECOND FORM's CARD OF 'recensionlaw06.PointsReplaces'. -/
def pointsReplacesUptoCard : Claim7 := { stood := { row := pointsReplacesUptoRow, standIns := [], harness := (true, "e47400e9d4727ad4df2c323c95e0c8b37a95e91baf3ef499c189cc4efdf62519"), looks := false }, kinds := [], alts := [], laidByText := true, laidKinds := [.data, .pinned], laidTests := true, laidLooks := .later }
def PointsReplacesUptoCardSaid : Prop := Claim7.holds Tryd.pinned (.plain (OpenSpec.upto pointsReplacesSpec)) pointsReplacesUptoCard

/-- THE SECOND FORM's CARD OF 'recensionlaw06.PointsNames'. -/
def pointsNamesUptoCard : Claim7 := { stood := { row := pointsNamesUptoRow, standIns := [], harness := (true, "e47400e9d4727ad4df2c323c95e0c8b37a95e91baf3ef499c189cc4efdf62519"), looks := false }, kinds := [], alts := [], laidByText := true, laidKinds := [.data, .pinned], laidTests := true, laidLooks := .later }
def PointsNamesUptoCardSaid : Prop := Claim7.holds Tryd.pinned (.plain (OpenSpec.upto pointsNamesSpec)) pointsNamesUptoCard

/-- THE SECOND FORM's CARD OF 'recensionlaw06.PointsCuts'. -/
def pointsCutsUptoCard : Claim7 := { stood := { row := pointsCutsUptoRow, standIns := [], harness := (true, "e47400e9d4727ad4df2c323c95e0c8b37a95e91baf3ef499c189cc4efdf62519"), looks := false }, kinds := [], alts := [], laidByText := true, laidKinds := [.data, .pinned], laidTests := true, laidLooks := .later }
def PointsCutsUptoCardSaid : Prop := Claim7.holds Tryd.pinned (.plain (OpenSpec.upto pointsCutsSpec)) pointsCutsUptoCard

/-- THE SECOND FORM's CARD OF 'recensionlaw06.PointsWhole'. -/
def pointsWholeUptoCard : Claim7 := { stood := { row := pointsWholeUptoRow, standIns := [], harness := (true, "e47400e9d4727ad4df2c323c95e0c8b37a95e91baf3ef499c189cc4efdf62519"), looks := false }, kinds := [], alts := [], laidByText := true, laidKinds := [.data, .pinned], laidTests := true, laidLooks := .later }
def PointsWholeUptoCardSaid : Prop := Claim7.holds Tryd.pinned (.plain (OpenSpec.upto pointsWholeSpec)) pointsWholeUptoCard
end Rows
end Go.Proofs.YtdkkfjcbdokdjaaDoor
