/-
  NARROWER THAN 'FOR EVERY INPUT', by the rows' own cells (each row's printed sentence says how): WeaveKeeps: laid · WeaveTurns: laid · WeaveBehind: laid · WeaveParts: laid · SheetGrows: laid · SheetInserts: laid · SheetReturns: laid · SheetTurns: laid.
  DERIVED. THE GIVEN ROWS OF THIS SEAT. 8 by the template 'for every input the law returns true; each argument reads behind the call as it read before'; 0 by the template 'total and deterministic' (their statements: YtphapjbfaomblaaDoorTotals.lean).
  GIVEN WITH THE SEED: the statements are not yours to turn. If you find one false, say at which input.
  Laid BY PROGRAM, IN A SANDBOX (cutbox-rows.mjs): the forced cells as the released guide's own fill.sh prints them over the translation 7947be8aa09f39f8… (all of the seat's roots in one cut). By AI agents, Wed Nov 11 2026. No macro, syntax, notation, axiom, sorry.
-/
import Derived.Test.YtphapjbfaomblaaDoorChecked
import GoSem.PinnedTables
import GoSem.Claim
import GoSem.ClaimJoined
import GoSem.ClaimMapViews
import Derived.JoinedTies
import Derived.KernelRfl
namespace Go.Proofs.YtphapjbfaomblaaDoor
/- THE CELL 'sum', in the pinned program and in every row, IS THE sha256 OF THE DUMP (.gsa) THAT YtphapjbfaomblaaDoorProg.lean LOADS. Nothing in Lean hashes anything: it is a label: what it is worth is what the hold of that sum in a sandbox is worth. -/
noncomputable def Tryd.pinned : Pinned := { name := "ytphapjbfaomblaadoor", sum := "7947be8aa09f39f879ec8d89423066afa57cd76862cdc4463ed26ed5fcdaf256", checked := Tryd.checked }
namespace Rows
def none {H : Type} : Left H := { results := [], args := [] }

/- WHAT THE LISTED PACKAGE-LEVEL VARIABLES READ AS WHEN THE CALL BEGINS. Each datum BY PROGRAM (the guide's laid-datum.mjs) off the statement by which the dump's own 'gosem.cut.vars' lays the variable. In a bare row this is a premise. The card (YtphapjbfaomblaaDoorCards.lean) ties it to the program's text. -/
def laid_unicode_utf8_acceptRanges {H : Type} : DataW H := .agg [.agg [.lit (.int .u8 128), .lit (.int .u8 191)], .agg [.lit (.int .u8 160), .lit (.int .u8 191)], .agg [.lit (.int .u8 128), .lit (.int .u8 159)], .agg [.lit (.int .u8 144), .lit (.int .u8 191)], .agg [.lit (.int .u8 128), .lit (.int .u8 143)], .agg [.lit (.int .u8 0), .lit (.int .u8 0)], .agg [.lit (.int .u8 0), .lit (.int .u8 0)], .agg [.lit (.int .u8 0), .lit (.int .u8 0)], .agg [.lit (.int .u8 0), .lit (.int .u8 0)], .agg [.lit (.int .u8 0), .lit (.int .u8 0)], .agg [.lit (.int .u8 0), .lit (.int .u8 0)], .agg [.lit (.int .u8 0), .lit (.int .u8 0)], .agg [.lit (.int .u8 0), .lit (.int .u8 0)], .agg [.lit (.int .u8 0), .lit (.int .u8 0)], .agg [.lit (.int .u8 0), .lit (.int .u8 0)], .agg [.lit (.int .u8 0), .lit (.int .u8 0)]]
/-- One of Go's own tables, pinned by name: the form's constant. -/
def laid_unicode_utf8_first : DataW Unit := Go.Pinned.utf8First

/-- 'recensionlaw09.WeaveKeeps': WHATEVER THE INPUT: true; the input reads as it did. -/
def weaveKeepsSpec : ChangeSpec := { name := "weaveKeeps", fn := fun _ => fun
  | [d1, d2] => { results := [.lit (.bool true)], args := [d1, d2] }
  | _ => none }
def weaveKeepsRow : OpenClaim := { program := "ytphapjbfaomblaadoor", sum := "7947be8aa09f39f879ec8d89423066afa57cd76862cdc4463ed26ed5fcdaf256", func := "recension/recensionlaw09.WeaveKeeps", spec := "weaveKeeps", inPlace := ["internal/abi.NoEscape"], unfollowed := true, recurses := true, named := ["unicode/utf8.first", "unicode/utf8.acceptRanges"], plainKeys := false, apart := false, laid := [("unicode/utf8.acceptRanges", laid_unicode_utf8_acceptRanges), ("unicode/utf8.first", laid_unicode_utf8_first)] }
def WeaveKeepsSaid : Prop := weaveKeepsRow.holds Tryd.pinned (OpenSpec.ofChange weaveKeepsSpec)

/-- ITS FALSE NEIGHBOUR: 'it returns false'. Refute it at one input. -/
def weaveKeepsWrong : ChangeSpec := { name := "weaveKeeps", fn := fun _ => fun
  | [d1, d2] => { results := [.lit (.bool false)], args := [d1, d2] }
  | _ => none }
def WeaveKeepsWrongFalsely : Prop := weaveKeepsRow.holds Tryd.pinned (OpenSpec.ofChange weaveKeepsWrong)

/-- 'recensionlaw09.WeaveTurns': WHATEVER THE INPUT: true; the input reads as it did. -/
def weaveTurnsSpec : ChangeSpec := { name := "weaveTurns", fn := fun _ => fun
  | [d1, d2] => { results := [.lit (.bool true)], args := [d1, d2] }
  | _ => none }
def weaveTurnsRow : OpenClaim := { program := "ytphapjbfaomblaadoor", sum := "7947be8aa09f39f879ec8d89423066afa57cd76862cdc4463ed26ed5fcdaf256", func := "recension/recensionlaw09.WeaveTurns", spec := "weaveTurns", inPlace := ["internal/abi.NoEscape"], unfollowed := true, recurses := true, named := ["unicode/utf8.first", "unicode/utf8.acceptRanges"], plainKeys := false, apart := false, laid := [("unicode/utf8.acceptRanges", laid_unicode_utf8_acceptRanges), ("unicode/utf8.first", laid_unicode_utf8_first)] }
def WeaveTurnsSaid : Prop := weaveTurnsRow.holds Tryd.pinned (OpenSpec.ofChange weaveTurnsSpec)

/-- ITS FALSE NEIGHBOUR: 'it returns false'. Refute it at one input. -/
def weaveTurnsWrong : ChangeSpec := { name := "weaveTurns", fn := fun _ => fun
  | [d1, d2] => { results := [.lit (.bool false)], args := [d1, d2] }
  | _ => none }
def WeaveTurnsWrongFalsely : Prop := weaveTurnsRow.holds Tryd.pinned (OpenSpec.ofChange weaveTurnsWrong)

/-- 'recensionlaw09.WeaveBehind': WHATEVER THE INPUT: true; the input reads as it did. -/
def weaveBehindSpec : ChangeSpec := { name := "weaveBehind", fn := fun _ => fun
  | [d] => { results := [.lit (.bool true)], args := [d] }
  | _ => none }
def weaveBehindRow : OpenClaim := { program := "ytphapjbfaomblaadoor", sum := "7947be8aa09f39f879ec8d89423066afa57cd76862cdc4463ed26ed5fcdaf256", func := "recension/recensionlaw09.WeaveBehind", spec := "weaveBehind", inPlace := ["internal/abi.NoEscape"], unfollowed := true, recurses := true, named := ["unicode/utf8.first", "unicode/utf8.acceptRanges"], plainKeys := false, apart := false, laid := [("unicode/utf8.acceptRanges", laid_unicode_utf8_acceptRanges), ("unicode/utf8.first", laid_unicode_utf8_first)] }
def WeaveBehindSaid : Prop := weaveBehindRow.holds Tryd.pinned (OpenSpec.ofChange weaveBehindSpec)

/-- ITS FALSE NEIGHBOUR: 'it returns false'. Refute it at one input. -/
def weaveBehindWrong : ChangeSpec := { name := "weaveBehind", fn := fun _ => fun
  | [d] => { results := [.lit (.bool false)], args := [d] }
  | _ => none }
def WeaveBehindWrongFalsely : Prop := weaveBehindRow.holds Tryd.pinned (OpenSpec.ofChange weaveBehindWrong)

/-- 'recensionlaw09.WeaveParts': WHATEVER THE INPUT: true; the input reads as it did. -/
def weavePartsSpec : ChangeSpec := { name := "weaveParts", fn := fun _ => fun
  | [d1, d2, d3] => { results := [.lit (.bool true)], args := [d1, d2, d3] }
  | _ => none }
def weavePartsRow : OpenClaim := { program := "ytphapjbfaomblaadoor", sum := "7947be8aa09f39f879ec8d89423066afa57cd76862cdc4463ed26ed5fcdaf256", func := "recension/recensionlaw09.WeaveParts", spec := "weaveParts", inPlace := ["internal/abi.NoEscape"], unfollowed := true, recurses := true, named := ["unicode/utf8.first", "unicode/utf8.acceptRanges"], plainKeys := false, apart := false, laid := [("unicode/utf8.acceptRanges", laid_unicode_utf8_acceptRanges), ("unicode/utf8.first", laid_unicode_utf8_first)] }
def WeavePartsSaid : Prop := weavePartsRow.holds Tryd.pinned (OpenSpec.ofChange weavePartsSpec)

/-- ITS FALSE NEIGHBOUR: 'it returns false'. Refute it at one input. -/
def weavePartsWrong : ChangeSpec := { name := "weaveParts", fn := fun _ => fun
  | [d1, d2, d3] => { results := [.lit (.bool false)], args := [d1, d2, d3] }
  | _ => none }
def WeavePartsWrongFalsely : Prop := weavePartsRow.holds Tryd.pinned (OpenSpec.ofChange weavePartsWrong)

/-- 'recensionlaw11.SheetGrows': WHATEVER THE INPUT: true; the input reads as it did. -/
def sheetGrowsSpec : ChangeSpec := { name := "sheetGrows", fn := fun _ => fun
  | [d1, d2, d3] => { results := [.lit (.bool true)], args := [d1, d2, d3] }
  | _ => none }
def sheetGrowsRow : OpenClaim := { program := "ytphapjbfaomblaadoor", sum := "7947be8aa09f39f879ec8d89423066afa57cd76862cdc4463ed26ed5fcdaf256", func := "recension/recensionlaw11.SheetGrows", spec := "sheetGrows", inPlace := ["slices.overlaps[recension/api.Id]", "slices.overlaps[bool]", "slices.overlaps[*recension/shelf.block]", "internal/abi.NoEscape"], named := ["unicode/utf8.first", "unicode/utf8.acceptRanges"], plainKeys := false, apart := false, laid := [("unicode/utf8.acceptRanges", laid_unicode_utf8_acceptRanges), ("unicode/utf8.first", laid_unicode_utf8_first)] }
def SheetGrowsSaid : Prop := sheetGrowsRow.holds Tryd.pinned (OpenSpec.ofChange sheetGrowsSpec)

/-- ITS FALSE NEIGHBOUR: 'it returns false'. Refute it at one input. -/
def sheetGrowsWrong : ChangeSpec := { name := "sheetGrows", fn := fun _ => fun
  | [d1, d2, d3] => { results := [.lit (.bool false)], args := [d1, d2, d3] }
  | _ => none }
def SheetGrowsWrongFalsely : Prop := sheetGrowsRow.holds Tryd.pinned (OpenSpec.ofChange sheetGrowsWrong)

/-- 'recensionlaw11.SheetInserts': WHATEVER THE INPUT: true; the input reads as it did. -/
def sheetInsertsSpec : ChangeSpec := { name := "sheetInserts", fn := fun _ => fun
  | [d1, d2, d3, d4] => { results := [.lit (.bool true)], args := [d1, d2, d3, d4] }
  | _ => none }
def sheetInsertsRow : OpenClaim := { program := "ytphapjbfaomblaadoor", sum := "7947be8aa09f39f879ec8d89423066afa57cd76862cdc4463ed26ed5fcdaf256", func := "recension/recensionlaw11.SheetInserts", spec := "sheetInserts", inPlace := ["slices.overlaps[recension/api.Id]", "slices.overlaps[bool]", "slices.overlaps[*recension/shelf.block]", "internal/abi.NoEscape"], named := ["unicode/utf8.first", "unicode/utf8.acceptRanges"], plainKeys := false, apart := false, laid := [("unicode/utf8.acceptRanges", laid_unicode_utf8_acceptRanges), ("unicode/utf8.first", laid_unicode_utf8_first)] }
def SheetInsertsSaid : Prop := sheetInsertsRow.holds Tryd.pinned (OpenSpec.ofChange sheetInsertsSpec)

/-- ITS FALSE NEIGHBOUR: 'it returns false'. Refute it at one input. -/
def sheetInsertsWrong : ChangeSpec := { name := "sheetInserts", fn := fun _ => fun
  | [d1, d2, d3, d4] => { results := [.lit (.bool false)], args := [d1, d2, d3, d4] }
  | _ => none }
def SheetInsertsWrongFalsely : Prop := sheetInsertsRow.holds Tryd.pinned (OpenSpec.ofChange sheetInsertsWrong)

/-- 'recensionlaw11.SheetReturns': WHATEVER THE INPUT: true; the input reads as it did. -/
def sheetReturnsSpec : ChangeSpec := { name := "sheetReturns", fn := fun _ => fun
  | [d1, d2, d3] => { results := [.lit (.bool true)], args := [d1, d2, d3] }
  | _ => none }
def sheetReturnsRow : OpenClaim := { program := "ytphapjbfaomblaadoor", sum := "7947be8aa09f39f879ec8d89423066afa57cd76862cdc4463ed26ed5fcdaf256", func := "recension/recensionlaw11.SheetReturns", spec := "sheetReturns", inPlace := ["slices.overlaps[recension/api.Id]", "slices.overlaps[bool]", "slices.overlaps[*recension/shelf.block]", "internal/abi.NoEscape"], named := ["unicode/utf8.first", "unicode/utf8.acceptRanges"], plainKeys := false, apart := false, laid := [("unicode/utf8.acceptRanges", laid_unicode_utf8_acceptRanges), ("unicode/utf8.first", laid_unicode_utf8_first)] }
def SheetReturnsSaid : Prop := sheetReturnsRow.holds Tryd.pinned (OpenSpec.ofChange sheetReturnsSpec)

/-- ITS FALSE NEIGHBOUR: 'it returns false'. Refute it at one input. -/
def sheetReturnsWrong : ChangeSpec := { name := "sheetReturns", fn := fun _ => fun
  | [d1, d2, d3] => { results := [.lit (.bool false)], args := [d1, d2, d3] }
  | _ => none }
def SheetReturnsWrongFalsely : Prop := sheetReturnsRow.holds Tryd.pinned (OpenSpec.ofChange sheetReturnsWrong)

/-- 'recensionlaw11.SheetTurns': WHATEVER THE INPUT: true; the input reads as it did. -/
def sheetTurnsSpec : ChangeSpec := { name := "sheetTurns", fn := fun _ => fun
  | [d1, d2] => { results := [.lit (.bool true)], args := [d1, d2] }
  | _ => none }
def sheetTurnsRow : OpenClaim := { program := "ytphapjbfaomblaadoor", sum := "7947be8aa09f39f879ec8d89423066afa57cd76862cdc4463ed26ed5fcdaf256", func := "recension/recensionlaw11.SheetTurns", spec := "sheetTurns", inPlace := ["slices.overlaps[recension/api.Id]", "slices.overlaps[bool]", "slices.overlaps[*recension/shelf.block]", "internal/abi.NoEscape"], named := ["unicode/utf8.first", "unicode/utf8.acceptRanges"], plainKeys := false, apart := false, laid := [("unicode/utf8.acceptRanges", laid_unicode_utf8_acceptRanges), ("unicode/utf8.first", laid_unicode_utf8_first)] }
def SheetTurnsSaid : Prop := sheetTurnsRow.holds Tryd.pinned (OpenSpec.ofChange sheetTurnsSpec)

/-- ITS FALSE NEIGHBOUR: 'it returns false'. Refute it at one input. -/
def sheetTurnsWrong : ChangeSpec := { name := "sheetTurns", fn := fun _ => fun
  | [d1, d2] => { results := [.lit (.bool false)], args := [d1, d2] }
  | _ => none }
def SheetTurnsWrongFalsely : Prop := sheetTurnsRow.holds Tryd.pinned (OpenSpec.ofChange sheetTurnsWrong)

/- THE SECOND FORM. 'bulk': how many values and letters a reading holds, each counted each time it is reached (what is shared counts as often as it is met; a slice's spare places count too). A statement '..UptoSaid' is the law's where the arguments, and the package variables that the reading takes, are together of bulk at most 1048576: NARROWER than '..Said'. Prove '..Said' where nothing that the law and all that it calls make is longer than what came in: it says more and counts as full. Else prove '..UptoSaid'. A law counts once. -/
mutual
def uptoBulk {H : Type} : DataW H → Nat
  | .lit (.string bytes) => bytes.length + 1
  | .lit _ => 1
  | .nil => 1
  | .ptr d => uptoBulk d + 1
  | .slice elems spare => uptoBulkAll elems + uptoBulkAll spare + 1
  | .agg parts => uptoBulkAll parts + 1
  | .iface _ d => uptoBulk d + 1
  | .map entries => uptoBulkEntries entries + 1
  | .held _ => 1
def uptoBulkAll {H : Type} : List (DataW H) → Nat
  | [] => 0
  | d :: r => uptoBulk d + uptoBulkAll r
def uptoBulkEntries {H : Type} : List (Lit × DataW H) → Nat
  | [] => 0
  | x :: r => uptoBulkEntry x + uptoBulkEntries r
def uptoBulkEntry {H : Type} : Lit × DataW H → Nat
  | (.string bytes, d) => bytes.length + uptoBulk d + 1
  | (_, d) => uptoBulk d + 1
 end
def uptoSmall : (H : Type) → List (DataW H) → Bool := fun _ ds => decide (uptoBulkAll ds ≤ 1048576)
def OpenSpec.upto (s : _root_.Go.ChangeSpec) : _root_.Go.OpenSpec := { _root_.Go.OpenSpec.ofChange s with cond := some uptoSmall }

/-- 'recensionlaw09.WeaveKeeps', WHERE WHAT IT READS IS OF BULK AT MOST 1048576: true; the input reads as it did. -/
def weaveKeepsUptoRow : OpenClaim := { program := "ytphapjbfaomblaadoor", sum := "7947be8aa09f39f879ec8d89423066afa57cd76862cdc4463ed26ed5fcdaf256", func := "recension/recensionlaw09.WeaveKeeps", spec := "weaveKeeps", inPlace := ["internal/abi.NoEscape"], unfollowed := true, recurses := true, named := ["unicode/utf8.first", "unicode/utf8.acceptRanges"], plainKeys := false, apart := false, laid := [("unicode/utf8.acceptRanges", laid_unicode_utf8_acceptRanges), ("unicode/utf8.first", laid_unicode_utf8_first)], narrowed := true }
def WeaveKeepsUptoSaid : Prop := weaveKeepsUptoRow.holds Tryd.pinned (OpenSpec.upto weaveKeepsSpec)

/-- 'recensionlaw09.WeaveTurns', WHERE WHAT IT READS IS OF BULK AT MOST 1048576: true; the input reads as it did. -/
def weaveTurnsUptoRow : OpenClaim := { program := "ytphapjbfaomblaadoor", sum := "7947be8aa09f39f879ec8d89423066afa57cd76862cdc4463ed26ed5fcdaf256", func := "recension/recensionlaw09.WeaveTurns", spec := "weaveTurns", inPlace := ["internal/abi.NoEscape"], unfollowed := true, recurses := true, named := ["unicode/utf8.first", "unicode/utf8.acceptRanges"], plainKeys := false, apart := false, laid := [("unicode/utf8.acceptRanges", laid_unicode_utf8_acceptRanges), ("unicode/utf8.first", laid_unicode_utf8_first)], narrowed := true }
def WeaveTurnsUptoSaid : Prop := weaveTurnsUptoRow.holds Tryd.pinned (OpenSpec.upto weaveTurnsSpec)

/-- 'recensionlaw09.WeaveBehind', WHERE WHAT IT READS IS OF BULK AT MOST 1048576: true; the input reads as it did. -/
def weaveBehindUptoRow : OpenClaim := { program := "ytphapjbfaomblaadoor", sum := "7947be8aa09f39f879ec8d89423066afa57cd76862cdc4463ed26ed5fcdaf256", func := "recension/recensionlaw09.WeaveBehind", spec := "weaveBehind", inPlace := ["internal/abi.NoEscape"], unfollowed := true, recurses := true, named := ["unicode/utf8.first", "unicode/utf8.acceptRanges"], plainKeys := false, apart := false, laid := [("unicode/utf8.acceptRanges", laid_unicode_utf8_acceptRanges), ("unicode/utf8.first", laid_unicode_utf8_first)], narrowed := true }
def WeaveBehindUptoSaid : Prop := weaveBehindUptoRow.holds Tryd.pinned (OpenSpec.upto weaveBehindSpec)

/-- 'recensionlaw09.WeaveParts', WHERE WHAT IT READS IS OF BULK AT MOST 1048576: true; the input reads as it did. -/
def weavePartsUptoRow : OpenClaim := { program := "ytphapjbfaomblaadoor", sum := "7947be8aa09f39f879ec8d89423066afa57cd76862cdc4463ed26ed5fcdaf256", func := "recension/recensionlaw09.WeaveParts", spec := "weaveParts", inPlace := ["internal/abi.NoEscape"], unfollowed := true, recurses := true, named := ["unicode/utf8.first", "unicode/utf8.acceptRanges"], plainKeys := false, apart := false, laid := [("unicode/utf8.acceptRanges", laid_unicode_utf8_acceptRanges), ("unicode/utf8.first", laid_unicode_utf8_first)], narrowed := true }
def WeavePartsUptoSaid : Prop := weavePartsUptoRow.holds Tryd.pinned (OpenSpec.upto weavePartsSpec)

/-- 'recensionlaw11.SheetGrows', WHERE WHAT IT READS IS OF BULK AT MOST 1048576: true; the input reads as it did. -/
def sheetGrowsUptoRow : OpenClaim := { program := "ytphapjbfaomblaadoor", sum := "7947be8aa09f39f879ec8d89423066afa57cd76862cdc4463ed26ed5fcdaf256", func := "recension/recensionlaw11.SheetGrows", spec := "sheetGrows", inPlace := ["slices.overlaps[recension/api.Id]", "slices.overlaps[bool]", "slices.overlaps[*recension/shelf.block]", "internal/abi.NoEscape"], named := ["unicode/utf8.first", "unicode/utf8.acceptRanges"], plainKeys := false, apart := false, laid := [("unicode/utf8.acceptRanges", laid_unicode_utf8_acceptRanges), ("unicode/utf8.first", laid_unicode_utf8_first)], narrowed := true }
def SheetGrowsUptoSaid : Prop := sheetGrowsUptoRow.holds Tryd.pinned (OpenSpec.upto sheetGrowsSpec)

/-- 'recensionlaw11.SheetInserts', WHERE WHAT IT READS IS OF BULK AT MOST 1048576: true; the input reads as it did. -/
def sheetInsertsUptoRow : OpenClaim := { program := "ytphapjbfaomblaadoor", sum := "7947be8aa09f39f879ec8d89423066afa57cd76862cdc4463ed26ed5fcdaf256", func := "recension/recensionlaw11.SheetInserts", spec := "sheetInserts", inPlace := ["slices.overlaps[recension/api.Id]", "slices.overlaps[bool]", "slices.overlaps[*recension/shelf.block]", "internal/abi.NoEscape"], named := ["unicode/utf8.first", "unicode/utf8.acceptRanges"], plainKeys := false, apart := false, laid := [("unicode/utf8.acceptRanges", laid_unicode_utf8_acceptRanges), ("unicode/utf8.first", laid_unicode_utf8_first)], narrowed := true }
def SheetInsertsUptoSaid : Prop := sheetInsertsUptoRow.holds Tryd.pinned (OpenSpec.upto sheetInsertsSpec)

/-- 'recensionlaw11.SheetReturns', WHERE WHAT IT READS IS OF BULK AT MOST 1048576: true; the input reads as it did. -/
def sheetReturnsUptoRow : OpenClaim := { program := "ytphapjbfaomblaadoor", sum := "7947be8aa09f39f879ec8d89423066afa57cd76862cdc4463ed26ed5fcdaf256", func := "recension/recensionlaw11.SheetReturns", spec := "sheetReturns", inPlace := ["slices.overlaps[recension/api.Id]", "slices.overlaps[bool]", "slices.overlaps[*recension/shelf.block]", "internal/abi.NoEscape"], named := ["unicode/utf8.first", "unicode/utf8.acceptRanges"], plainKeys := false, apart := false, laid := [("unicode/utf8.acceptRanges", laid_unicode_utf8_acceptRanges), ("unicode/utf8.first", laid_unicode_utf8_first)], narrowed := true }
def SheetReturnsUptoSaid : Prop := sheetReturnsUptoRow.holds Tryd.pinned (OpenSpec.upto sheetReturnsSpec)

/-- 'recensionlaw11.SheetTurns', WHERE WHAT IT READS IS OF BULK AT MOST 1048576: true; the input reads as it did. -/
def sheetTurnsUptoRow : OpenClaim := { program := "ytphapjbfaomblaadoor", sum := "7947be8aa09f39f879ec8d89423066afa57cd76862cdc4463ed26ed5fcdaf256", func := "recension/recensionlaw11.SheetTurns", spec := "sheetTurns", inPlace := ["slices.overlaps[recension/api.Id]", "slices.overlaps[bool]", "slices.overlaps[*recension/shelf.block]", "internal/abi.NoEscape"], named := ["unicode/utf8.first", "unicode/utf8.acceptRanges"], plainKeys := false, apart := false, laid := [("unicode/utf8.acceptRanges", laid_unicode_utf8_acceptRanges), ("unicode/utf8.first", laid_unicode_utf8_first)], narrowed := true }
def SheetTurnsUptoSaid : Prop := sheetTurnsUptoRow.holds Tryd.pinned (OpenSpec.upto sheetTurnsSpec)

end Rows
end Go.Proofs.YtphapjbfaomblaaDoor
