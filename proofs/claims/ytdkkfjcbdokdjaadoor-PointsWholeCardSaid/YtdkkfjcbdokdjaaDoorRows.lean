/-
  NARROWER THAN 'FOR EVERY INPUT', by the rows' own cells (each row's printed sentence says how): PointsSplits: laid · PointsFinds: laid · PointsReplaces: laid · PointsNames: laid · PointsCuts: laid · PointsWhole: laid.
  DERIVED. THE GIVEN ROWS OF THIS SEAT. 6 by the template 'for every input the law returns true; each argument reads behind the call as it read before'; 0 by the template 'total and deterministic' (their statements: YtdkkfjcbdokdjaaDoorTotals.lean).
  GIVEN WITH THE SEED: the statements are not yours to turn. If you find one false, say at which input.
  Laid BY PROGRAM, IN A SANDBOX (cutbox-rows.mjs): the forced cells as the released guide's own fill.sh prints them over the translation 10112f066cced8c1… (all of the seat's roots in one cut). By AI agents, Wed Nov 11 2026. No macro, syntax, notation, axiom, sorry.
-/
import Derived.Test.YtdkkfjcbdokdjaaDoorChecked
import GoSem.PinnedTables
import GoSem.Claim
import GoSem.ClaimJoined
import GoSem.ClaimMapViews
import Derived.JoinedTies
import Derived.KernelRfl
namespace Go.Proofs.YtdkkfjcbdokdjaaDoor
/- THE CELL 'sum', in the pinned program and in every row, IS THE sha256 OF THE DUMP (.gsa) THAT YtdkkfjcbdokdjaaDoorProg.lean LOADS. Nothing in Lean hashes anything: it is a label: what it is worth is what the hold of that sum in a sandbox is worth. -/
noncomputable def Tryd.pinned : Pinned := { name := "ytdkkfjcbdokdjaadoor", sum := "10112f066cced8c183769942dd3b254d76d6121ebff3e80290cce34881e648ca", checked := Tryd.checked }
namespace Rows
def none {H : Type} : Left H := { results := [], args := [] }

/- WHAT THE LISTED PACKAGE-LEVEL VARIABLES READ AS WHEN THE CALL BEGINS. Each datum BY PROGRAM (the guide's laid-datum.mjs) off the statement by which the dump's own 'gosem.cut.vars' lays the variable. In a bare row this is a premise. The card (YtdkkfjcbdokdjaaDoorCards.lean) ties it to the program's text. -/
def laid_unicode_utf8_acceptRanges {H : Type} : DataW H := .agg [.agg [.lit (.int .u8 128), .lit (.int .u8 191)], .agg [.lit (.int .u8 160), .lit (.int .u8 191)], .agg [.lit (.int .u8 128), .lit (.int .u8 159)], .agg [.lit (.int .u8 144), .lit (.int .u8 191)], .agg [.lit (.int .u8 128), .lit (.int .u8 143)], .agg [.lit (.int .u8 0), .lit (.int .u8 0)], .agg [.lit (.int .u8 0), .lit (.int .u8 0)], .agg [.lit (.int .u8 0), .lit (.int .u8 0)], .agg [.lit (.int .u8 0), .lit (.int .u8 0)], .agg [.lit (.int .u8 0), .lit (.int .u8 0)], .agg [.lit (.int .u8 0), .lit (.int .u8 0)], .agg [.lit (.int .u8 0), .lit (.int .u8 0)], .agg [.lit (.int .u8 0), .lit (.int .u8 0)], .agg [.lit (.int .u8 0), .lit (.int .u8 0)], .agg [.lit (.int .u8 0), .lit (.int .u8 0)], .agg [.lit (.int .u8 0), .lit (.int .u8 0)]]
/-- One of Go's own tables, pinned by name: the form's constant. -/
def laid_unicode_utf8_first : DataW Unit := Go.Pinned.utf8First

/-- 'recensionlaw06.PointsSplits': WHATEVER THE INPUT: true; the input reads as it did. -/
def pointsSplitsSpec : ChangeSpec := { name := "pointsSplits", fn := fun _ => fun
  | [d] => { results := [.lit (.bool true)], args := [d] }
  | _ => none }
def pointsSplitsRow : OpenClaim := { program := "ytdkkfjcbdokdjaadoor", sum := "10112f066cced8c183769942dd3b254d76d6121ebff3e80290cce34881e648ca", func := "recension/recensionlaw06.PointsSplits", spec := "pointsSplits", inPlace := ["internal/abi.NoEscape"], named := ["unicode/utf8.first", "unicode/utf8.acceptRanges"], apart := false, laid := [("unicode/utf8.acceptRanges", laid_unicode_utf8_acceptRanges), ("unicode/utf8.first", laid_unicode_utf8_first)] }
def PointsSplitsSaid : Prop := pointsSplitsRow.holds Tryd.pinned (OpenSpec.ofChange pointsSplitsSpec)

/-- ITS FALSE NEIGHBOUR: 'it returns false'. Refute it at one input. -/
def pointsSplitsWrong : ChangeSpec := { name := "pointsSplits", fn := fun _ => fun
  | [d] => { results := [.lit (.bool false)], args := [d] }
  | _ => none }
def PointsSplitsWrongFalsely : Prop := pointsSplitsRow.holds Tryd.pinned (OpenSpec.ofChange pointsSplitsWrong)

/-- 'recensionlaw06.PointsFinds': WHATEVER THE INPUT: true; the input reads as it did. -/
def pointsFindsSpec : ChangeSpec := { name := "pointsFinds", fn := fun _ => fun
  | [d1, d2] => { results := [.lit (.bool true)], args := [d1, d2] }
  | _ => none }
def pointsFindsRow : OpenClaim := { program := "ytdkkfjcbdokdjaadoor", sum := "10112f066cced8c183769942dd3b254d76d6121ebff3e80290cce34881e648ca", func := "recension/recensionlaw06.PointsFinds", spec := "pointsFinds", inPlace := ["internal/abi.NoEscape"], named := ["unicode/utf8.first", "unicode/utf8.acceptRanges"], apart := false, laid := [("unicode/utf8.acceptRanges", laid_unicode_utf8_acceptRanges), ("unicode/utf8.first", laid_unicode_utf8_first)] }
def PointsFindsSaid : Prop := pointsFindsRow.holds Tryd.pinned (OpenSpec.ofChange pointsFindsSpec)

/-- ITS FALSE NEIGHBOUR: 'it returns false'. Refute it at one input. -/
def pointsFindsWrong : ChangeSpec := { name := "pointsFinds", fn := fun _ => fun
  | [d1, d2] => { results := [.lit (.bool false)], args := [d1, d2] }
  | _ => none }
def PointsFindsWrongFalsely : Prop := pointsFindsRow.holds Tryd.pinned (OpenSpec.ofChange pointsFindsWrong)

/-- 'recensionlaw06.PointsReplaces': WHATEVER THE INPUT: true; the input reads as it did. -/
def pointsReplacesSpec : ChangeSpec := { name := "pointsReplaces", fn := fun _ => fun
  | [d1, d2, d3] => { results := [.lit (.bool true)], args := [d1, d2, d3] }
  | _ => none }
def pointsReplacesRow : OpenClaim := { program := "ytdkkfjcbdokdjaadoor", sum := "10112f066cced8c183769942dd3b254d76d6121ebff3e80290cce34881e648ca", func := "recension/recensionlaw06.PointsReplaces", spec := "pointsReplaces", inPlace := ["internal/abi.NoEscape"], named := ["unicode/utf8.first", "unicode/utf8.acceptRanges"], apart := false, laid := [("unicode/utf8.acceptRanges", laid_unicode_utf8_acceptRanges), ("unicode/utf8.first", laid_unicode_utf8_first)] }
def PointsReplacesSaid : Prop := pointsReplacesRow.holds Tryd.pinned (OpenSpec.ofChange pointsReplacesSpec)

/-- ITS FALSE NEIGHBOUR: 'it returns false'. Refute it at one input. -/
def pointsReplacesWrong : ChangeSpec := { name := "pointsReplaces", fn := fun _ => fun
  | [d1, d2, d3] => { results := [.lit (.bool false)], args := [d1, d2, d3] }
  | _ => none }
def PointsReplacesWrongFalsely : Prop := pointsReplacesRow.holds Tryd.pinned (OpenSpec.ofChange pointsReplacesWrong)

/-- 'recensionlaw06.PointsNames': WHATEVER THE INPUT: true; the input reads as it did. -/
def pointsNamesSpec : ChangeSpec := { name := "pointsNames", fn := fun _ => fun
  | [d1, d2, d3] => { results := [.lit (.bool true)], args := [d1, d2, d3] }
  | _ => none }
def pointsNamesRow : OpenClaim := { program := "ytdkkfjcbdokdjaadoor", sum := "10112f066cced8c183769942dd3b254d76d6121ebff3e80290cce34881e648ca", func := "recension/recensionlaw06.PointsNames", spec := "pointsNames", inPlace := ["internal/abi.NoEscape"], named := ["unicode/utf8.first", "unicode/utf8.acceptRanges"], apart := false, laid := [("unicode/utf8.acceptRanges", laid_unicode_utf8_acceptRanges), ("unicode/utf8.first", laid_unicode_utf8_first)] }
def PointsNamesSaid : Prop := pointsNamesRow.holds Tryd.pinned (OpenSpec.ofChange pointsNamesSpec)

/-- ITS FALSE NEIGHBOUR: 'it returns false'. Refute it at one input. -/
def pointsNamesWrong : ChangeSpec := { name := "pointsNames", fn := fun _ => fun
  | [d1, d2, d3] => { results := [.lit (.bool false)], args := [d1, d2, d3] }
  | _ => none }
def PointsNamesWrongFalsely : Prop := pointsNamesRow.holds Tryd.pinned (OpenSpec.ofChange pointsNamesWrong)

/-- 'recensionlaw06.PointsCuts': WHATEVER THE INPUT: true; the input reads as it did. -/
def pointsCutsSpec : ChangeSpec := { name := "pointsCuts", fn := fun _ => fun
  | [d1, d2, d3, d4] => { results := [.lit (.bool true)], args := [d1, d2, d3, d4] }
  | _ => none }
def pointsCutsRow : OpenClaim := { program := "ytdkkfjcbdokdjaadoor", sum := "10112f066cced8c183769942dd3b254d76d6121ebff3e80290cce34881e648ca", func := "recension/recensionlaw06.PointsCuts", spec := "pointsCuts", inPlace := ["internal/abi.NoEscape"], named := ["unicode/utf8.first", "unicode/utf8.acceptRanges"], apart := false, laid := [("unicode/utf8.acceptRanges", laid_unicode_utf8_acceptRanges), ("unicode/utf8.first", laid_unicode_utf8_first)] }
def PointsCutsSaid : Prop := pointsCutsRow.holds Tryd.pinned (OpenSpec.ofChange pointsCutsSpec)

/-- ITS FALSE NEIGHBOUR: 'it returns false'. Refute it at one input. -/
def pointsCutsWrong : ChangeSpec := { name := "pointsCuts", fn := fun _ => fun
  | [d1, d2, d3, d4] => { results := [.lit (.bool false)], args := [d1, d2, d3, d4] }
  | _ => none }
def PointsCutsWrongFalsely : Prop := pointsCutsRow.holds Tryd.pinned (OpenSpec.ofChange pointsCutsWrong)

/-- 'recensionlaw06.PointsWhole': WHATEVER THE INPUT: true; the input reads as it did. -/
def pointsWholeSpec : ChangeSpec := { name := "pointsWhole", fn := fun _ => fun
  | [d1, d2, d3] => { results := [.lit (.bool true)], args := [d1, d2, d3] }
  | _ => none }
def pointsWholeRow : OpenClaim := { program := "ytdkkfjcbdokdjaadoor", sum := "10112f066cced8c183769942dd3b254d76d6121ebff3e80290cce34881e648ca", func := "recension/recensionlaw06.PointsWhole", spec := "pointsWhole", inPlace := ["internal/abi.NoEscape"], named := ["unicode/utf8.first", "unicode/utf8.acceptRanges"], apart := false, laid := [("unicode/utf8.acceptRanges", laid_unicode_utf8_acceptRanges), ("unicode/utf8.first", laid_unicode_utf8_first)] }
def PointsWholeSaid : Prop := pointsWholeRow.holds Tryd.pinned (OpenSpec.ofChange pointsWholeSpec)

/-- ITS FALSE NEIGHBOUR: 'it returns false'. Refute it at one input. -/
def pointsWholeWrong : ChangeSpec := { name := "pointsWhole", fn := fun _ => fun
  | [d1, d2, d3] => { results := [.lit (.bool false)], args := [d1, d2, d3] }
  | _ => none }
def PointsWholeWrongFalsely : Prop := pointsWholeRow.holds Tryd.pinned (OpenSpec.ofChange pointsWholeWrong)

/- THE SECOND FORM. 'bulk': how many values and letters a reading holds, each counted each time it is reached (what is shared counts as often as it is met; a slice's spare places count too). A statement '..UptoSaid' is the law's where the arguments, and the package variables that the reading takes, are together of bulk at most 1048576: NARROWER than '..Said'. Prove '..Said' where nothing that the law and all that it calls make is longer than what came in: it says more and counts as full. Else prove '..UptoSaid'. A law counts once. -/
mutual
def uptoBulk {H : Type} : DataW H → Nat
  | .lit (.string bytes) => bytes.length + 1
  | .lit _ => 1
  | .nil => 1
  | .ptr d => uptoBulk d + 1
  | .slice elems spare => uptoBulkAll elems + uptoBulkAll spare + 1
  | .agg parts => uptoBulkAll parts + 1
  | .iface _ d => uptoBulk d + 1
  | .map entries => uptoBulkEntries entries + 1
  | .held _ => 1
def uptoBulkAll {H : Type} : List (DataW H) → Nat
  | [] => 0
  | d :: r => uptoBulk d + uptoBulkAll r
def uptoBulkEntries {H : Type} : List (Lit × DataW H) → Nat
  | [] => 0
  | x :: r => uptoBulkEntry x + uptoBulkEntries r
def uptoBulkEntry {H : Type} : Lit × DataW H → Nat
  | (.string bytes, d) => bytes.length + uptoBulk d + 1
  | (_, d) => uptoBulk d + 1
 end
def uptoSmall : (H : Type) → List (DataW H) → Bool := fun _ ds => decide (uptoBulkAll ds ≤ 1048576)
def OpenSpec.upto (s : _root_.Go.ChangeSpec) : _root_.Go.OpenSpec := { _root_.Go.OpenSpec.ofChange s with cond := some uptoSmall }

/-- 'recensionlaw06.PointsSplits', WHERE WHAT IT READS IS OF BULK AT MOST 1048576: true; the input reads as it did. -/
def pointsSplitsUptoRow : OpenClaim := { program := "ytdkkfjcbdokdjaadoor", sum := "10112f066cced8c183769942dd3b254d76d6121ebff3e80290cce34881e648ca", func := "recension/recensionlaw06.PointsSplits", spec := "pointsSplits", inPlace := ["internal/abi.NoEscape"], named := ["unicode/utf8.first", "unicode/utf8.acceptRanges"], apart := false, laid := [("unicode/utf8.acceptRanges", laid_unicode_utf8_acceptRanges), ("unicode/utf8.first", laid_unicode_utf8_first)], narrowed := true }
def PointsSplitsUptoSaid : Prop := pointsSplitsUptoRow.holds Tryd.pinned (OpenSpec.upto pointsSplitsSpec)

/-- 'recensionlaw06.PointsFinds', WHERE WHAT IT READS IS OF BULK AT MOST 1048576: true; the input reads as it did. -/
def pointsFindsUptoRow : OpenClaim := { program := "ytdkkfjcbdokdjaadoor", sum := "10112f066cced8c183769942dd3b254d76d6121ebff3e80290cce34881e648ca", func := "recension/recensionlaw06.PointsFinds", spec := "pointsFinds", inPlace := ["internal/abi.NoEscape"], named := ["unicode/utf8.first", "unicode/utf8.acceptRanges"], apart := false, laid := [("unicode/utf8.acceptRanges", laid_unicode_utf8_acceptRanges), ("unicode/utf8.first", laid_unicode_utf8_first)], narrowed := true }
def PointsFindsUptoSaid : Prop := pointsFindsUptoRow.holds Tryd.pinned (OpenSpec.upto pointsFindsSpec)

/-- 'recensionlaw06.PointsReplaces', WHERE WHAT IT READS IS OF BULK AT MOST 1048576: true; the input reads as it did. -/
def pointsReplacesUptoRow : OpenClaim := { program := "ytdkkfjcbdokdjaadoor", sum := "10112f066cced8c183769942dd3b254d76d6121ebff3e80290cce34881e648ca", func := "recension/recensionlaw06.PointsReplaces", spec := "pointsReplaces", inPlace := ["internal/abi.NoEscape"], named := ["unicode/utf8.first", "unicode/utf8.acceptRanges"], apart := false, laid := [("unicode/utf8.acceptRanges", laid_unicode_utf8_acceptRanges), ("unicode/utf8.first", laid_unicode_utf8_first)], narrowed := true }
def PointsReplacesUptoSaid : Prop := pointsReplacesUptoRow.holds Tryd.pinned (OpenSpec.upto pointsReplacesSpec)

/-- 'recensionlaw06.PointsNames', WHERE WHAT IT READS IS OF BULK AT MOST 1048576: true; the input reads as it did. -/
def pointsNamesUptoRow : OpenClaim := { program := "ytdkkfjcbdokdjaadoor", sum := "10112f066cced8c183769942dd3b254d76d6121ebff3e80290cce34881e648ca", func := "recension/recensionlaw06.PointsNames", spec := "pointsNames", inPlace := ["internal/abi.NoEscape"], named := ["unicode/utf8.first", "unicode/utf8.acceptRanges"], apart := false, laid := [("unicode/utf8.acceptRanges", laid_unicode_utf8_acceptRanges), ("unicode/utf8.first", laid_unicode_utf8_first)], narrowed := true }
def PointsNamesUptoSaid : Prop := pointsNamesUptoRow.holds Tryd.pinned (OpenSpec.upto pointsNamesSpec)

/-- 'recensionlaw06.PointsCuts', WHERE WHAT IT READS IS OF BULK AT MOST 1048576: true; the input reads as it did. -/
def pointsCutsUptoRow : OpenClaim := { program := "ytdkkfjcbdokdjaadoor", sum := "10112f066cced8c183769942dd3b254d76d6121ebff3e80290cce34881e648ca", func := "recension/recensionlaw06.PointsCuts", spec := "pointsCuts", inPlace := ["internal/abi.NoEscape"], named := ["unicode/utf8.first", "unicode/utf8.acceptRanges"], apart := false, laid := [("unicode/utf8.acceptRanges", laid_unicode_utf8_acceptRanges), ("unicode/utf8.first", laid_unicode_utf8_first)], narrowed := true }
def PointsCutsUptoSaid : Prop := pointsCutsUptoRow.holds Tryd.pinned (OpenSpec.upto pointsCutsSpec)

/-- 'recensionlaw06.PointsWhole', WHERE WHAT IT READS IS OF BULK AT MOST 1048576: true; the input reads as it did. -/
def pointsWholeUptoRow : OpenClaim := { program := "ytdkkfjcbdokdjaadoor", sum := "10112f066cced8c183769942dd3b254d76d6121ebff3e80290cce34881e648ca", func := "recension/recensionlaw06.PointsWhole", spec := "pointsWhole", inPlace := ["internal/abi.NoEscape"], named := ["unicode/utf8.first", "unicode/utf8.acceptRanges"], apart := false, laid := [("unicode/utf8.acceptRanges", laid_unicode_utf8_acceptRanges), ("unicode/utf8.first", laid_unicode_utf8_first)], narrowed := true }
def PointsWholeUptoSaid : Prop := pointsWholeUptoRow.holds Tryd.pinned (OpenSpec.upto pointsWholeSpec)

end Rows
end Go.Proofs.YtdkkfjcbdokdjaaDoor
