/-
  No cell of these rows narrows 'for every input' (looked for: loops, veiled, ifaces, maps, wideKeys, modest, calm, conditions, laid).
  DERIVED. THE GIVEN ROWS OF THIS SEAT. 7 by the template 'for every input the law returns true; each argument reads behind the call as it read before'; 0 by the template 'total and deterministic' (their statements: YtjlghmjngiegaaaTotals.lean).
  GIVEN WITH THE SEED: the statements are not yours to turn. If you find one false, say at which input.
  Laid BY PROGRAM, IN A SANDBOX (cutbox-rows.mjs): the forced cells as the released guide's own fill.sh prints them over the translation 929aca846907431e… (all of the seat's roots in one cut). By AI agents, Wed Nov 11 2026. No macro, syntax, notation, axiom, sorry.
-/
import Derived.Test.YtjlghmjngiegaaaChecked
import GoSem.Claim
import GoSem.ClaimJoined
import GoSem.ClaimMapViews
import Derived.JoinedTies
import Derived.KernelRfl
namespace Go.Proofs.Ytjlghmjngiegaaa
/- THE CELL 'sum', in the pinned program and in every row, IS THE sha256 OF THE DUMP (.gsa) THAT YtjlghmjngiegaaaProg.lean LOADS. Nothing in Lean hashes anything: it is a label: what it is worth is what the hold of that sum in a sandbox is worth. -/
noncomputable def Try.pinned : Pinned := { name := "ytjlghmjngiegaaa", sum := "929aca846907431e60947c69dad21f4cc6fe3bf4fdf94d359177762910ba936b", checked := Try.checked }
namespace Rows
def none {H : Type} : Left H := { results := [], args := [] }

/-- 'recensionlaw04.GaugeRates': WHATEVER THE INPUT: true; the input reads as it did. -/
def gaugeRatesSpec : ChangeSpec := { name := "gaugeRates", fn := fun _ => fun
  | [d1, d2] => { results := [.lit (.bool true)], args := [d1, d2] }
  | _ => none }
def gaugeRatesRow : OpenClaim := { program := "ytjlghmjngiegaaa", sum := "929aca846907431e60947c69dad21f4cc6fe3bf4fdf94d359177762910ba936b", func := "recension/recensionlaw04.GaugeRates", spec := "gaugeRates", inPlace := ["math.Float64bits", "math.Float64frombits"], unfollowed := true, recurses := true, apart := false }
def GaugeRatesSaid : Prop := gaugeRatesRow.holds Try.pinned (OpenSpec.ofChange gaugeRatesSpec)

/-- ITS FALSE NEIGHBOUR: 'it returns false'. Refute it at one input. -/
def gaugeRatesWrong : ChangeSpec := { name := "gaugeRates", fn := fun _ => fun
  | [d1, d2] => { results := [.lit (.bool false)], args := [d1, d2] }
  | _ => none }
def GaugeRatesWrongFalsely : Prop := gaugeRatesRow.holds Try.pinned (OpenSpec.ofChange gaugeRatesWrong)

/-- 'recensionlaw04.GaugeMiddles': WHATEVER THE INPUT: true; the input reads as it did. -/
def gaugeMiddlesSpec : ChangeSpec := { name := "gaugeMiddles", fn := fun _ => fun
  | [d] => { results := [.lit (.bool true)], args := [d] }
  | _ => none }
def gaugeMiddlesRow : OpenClaim := { program := "ytjlghmjngiegaaa", sum := "929aca846907431e60947c69dad21f4cc6fe3bf4fdf94d359177762910ba936b", func := "recension/recensionlaw04.GaugeMiddles", spec := "gaugeMiddles", inPlace := ["math.Float64bits", "math.Float64frombits"], unfollowed := true, recurses := true, apart := false }
def GaugeMiddlesSaid : Prop := gaugeMiddlesRow.holds Try.pinned (OpenSpec.ofChange gaugeMiddlesSpec)

/-- ITS FALSE NEIGHBOUR: 'it returns false'. Refute it at one input. -/
def gaugeMiddlesWrong : ChangeSpec := { name := "gaugeMiddles", fn := fun _ => fun
  | [d] => { results := [.lit (.bool false)], args := [d] }
  | _ => none }
def GaugeMiddlesWrongFalsely : Prop := gaugeMiddlesRow.holds Try.pinned (OpenSpec.ofChange gaugeMiddlesWrong)

/-- 'recensionlaw04.GaugeTotal': WHATEVER THE INPUT: true; the input reads as it did. -/
def gaugeTotalSpec : ChangeSpec := { name := "gaugeTotal", fn := fun _ => fun
  | [d1, d2, d3] => { results := [.lit (.bool true)], args := [d1, d2, d3] }
  | _ => none }
def gaugeTotalRow : OpenClaim := { program := "ytjlghmjngiegaaa", sum := "929aca846907431e60947c69dad21f4cc6fe3bf4fdf94d359177762910ba936b", func := "recension/recensionlaw04.GaugeTotal", spec := "gaugeTotal", inPlace := ["math.Float64bits", "math.Float64frombits"], unfollowed := true, recurses := true, apart := false }
def GaugeTotalSaid : Prop := gaugeTotalRow.holds Try.pinned (OpenSpec.ofChange gaugeTotalSpec)

/-- ITS FALSE NEIGHBOUR: 'it returns false'. Refute it at one input. -/
def gaugeTotalWrong : ChangeSpec := { name := "gaugeTotal", fn := fun _ => fun
  | [d1, d2, d3] => { results := [.lit (.bool false)], args := [d1, d2, d3] }
  | _ => none }
def GaugeTotalWrongFalsely : Prop := gaugeTotalRow.holds Try.pinned (OpenSpec.ofChange gaugeTotalWrong)

/-- 'recensionlaw04.GaugeCmps': WHATEVER THE INPUT: true; the input reads as it did. -/
def gaugeCmpsSpec : ChangeSpec := { name := "gaugeCmps", fn := fun _ => fun
  | [d1, d2, d3] => { results := [.lit (.bool true)], args := [d1, d2, d3] }
  | _ => none }
def gaugeCmpsRow : OpenClaim := { program := "ytjlghmjngiegaaa", sum := "929aca846907431e60947c69dad21f4cc6fe3bf4fdf94d359177762910ba936b", func := "recension/recensionlaw04.GaugeCmps", spec := "gaugeCmps", inPlace := ["math.Float64bits", "math.Float64frombits"], unfollowed := true, recurses := true, apart := false }
def GaugeCmpsSaid : Prop := gaugeCmpsRow.holds Try.pinned (OpenSpec.ofChange gaugeCmpsSpec)

/-- ITS FALSE NEIGHBOUR: 'it returns false'. Refute it at one input. -/
def gaugeCmpsWrong : ChangeSpec := { name := "gaugeCmps", fn := fun _ => fun
  | [d1, d2, d3] => { results := [.lit (.bool false)], args := [d1, d2, d3] }
  | _ => none }
def GaugeCmpsWrongFalsely : Prop := gaugeCmpsRow.holds Try.pinned (OpenSpec.ofChange gaugeCmpsWrong)

/-- 'recensionlaw04.GaugeNothing': WHATEVER THE INPUT: true; the input reads as it did. -/
def gaugeNothingSpec : ChangeSpec := { name := "gaugeNothing", fn := fun _ => fun
  | [d1, d2] => { results := [.lit (.bool true)], args := [d1, d2] }
  | _ => none }
def gaugeNothingRow : OpenClaim := { program := "ytjlghmjngiegaaa", sum := "929aca846907431e60947c69dad21f4cc6fe3bf4fdf94d359177762910ba936b", func := "recension/recensionlaw04.GaugeNothing", spec := "gaugeNothing", inPlace := ["math.Float64bits", "math.Float64frombits"], unfollowed := true, recurses := true, apart := false }
def GaugeNothingSaid : Prop := gaugeNothingRow.holds Try.pinned (OpenSpec.ofChange gaugeNothingSpec)

/-- ITS FALSE NEIGHBOUR: 'it returns false'. Refute it at one input. -/
def gaugeNothingWrong : ChangeSpec := { name := "gaugeNothing", fn := fun _ => fun
  | [d1, d2] => { results := [.lit (.bool false)], args := [d1, d2] }
  | _ => none }
def GaugeNothingWrongFalsely : Prop := gaugeNothingRow.holds Try.pinned (OpenSpec.ofChange gaugeNothingWrong)

/-- 'recensionlaw04.GaugeOnce': WHATEVER THE INPUT: true; the input reads as it did. -/
def gaugeOnceSpec : ChangeSpec := { name := "gaugeOnce", fn := fun _ => fun
  | [d] => { results := [.lit (.bool true)], args := [d] }
  | _ => none }
def gaugeOnceRow : OpenClaim := { program := "ytjlghmjngiegaaa", sum := "929aca846907431e60947c69dad21f4cc6fe3bf4fdf94d359177762910ba936b", func := "recension/recensionlaw04.GaugeOnce", spec := "gaugeOnce", inPlace := ["math.Float64bits", "math.Float64frombits"], unfollowed := true, recurses := true, apart := false }
def GaugeOnceSaid : Prop := gaugeOnceRow.holds Try.pinned (OpenSpec.ofChange gaugeOnceSpec)

/-- ITS FALSE NEIGHBOUR: 'it returns false'. Refute it at one input. -/
def gaugeOnceWrong : ChangeSpec := { name := "gaugeOnce", fn := fun _ => fun
  | [d] => { results := [.lit (.bool false)], args := [d] }
  | _ => none }
def GaugeOnceWrongFalsely : Prop := gaugeOnceRow.holds Try.pinned (OpenSpec.ofChange gaugeOnceWrong)

/-- 'recensionlaw04.GaugeOrders': WHATEVER THE INPUT: true; the input reads as it did. -/
def gaugeOrdersSpec : ChangeSpec := { name := "gaugeOrders", fn := fun _ => fun
  | [d] => { results := [.lit (.bool true)], args := [d] }
  | _ => none }
def gaugeOrdersRow : OpenClaim := { program := "ytjlghmjngiegaaa", sum := "929aca846907431e60947c69dad21f4cc6fe3bf4fdf94d359177762910ba936b", func := "recension/recensionlaw04.GaugeOrders", spec := "gaugeOrders", inPlace := ["math.Float64bits", "math.Float64frombits"], unfollowed := true, recurses := true, apart := false }
def GaugeOrdersSaid : Prop := gaugeOrdersRow.holds Try.pinned (OpenSpec.ofChange gaugeOrdersSpec)

/-- ITS FALSE NEIGHBOUR: 'it returns false'. Refute it at one input. -/
def gaugeOrdersWrong : ChangeSpec := { name := "gaugeOrders", fn := fun _ => fun
  | [d] => { results := [.lit (.bool false)], args := [d] }
  | _ => none }
def GaugeOrdersWrongFalsely : Prop := gaugeOrdersRow.holds Try.pinned (OpenSpec.ofChange gaugeOrdersWrong)

/- THE SECOND FORM. 'bulk': how many values and letters a reading holds, each counted each time it is reached (what is shared counts as often as it is met; a slice's spare places count too). A statement '..UptoSaid' is the law's where the arguments, and the package variables that the reading takes, are together of bulk at most 1048576: NARROWER than '..Said'. Prove '..Said' where nothing that the law and all that it calls make is longer than what came in: it says more and counts as full. Else prove '..UptoSaid'. A law counts once. -/
mutual
def uptoBulk {H : Type} : DataW H → Nat
  | .lit (.string bytes) => bytes.length + 1
  | .lit _ => 1
  | .nil => 1
  | .ptr d => uptoBulk d + 1
  | .slice elems spare => uptoBulkAll elems + uptoBulkAll spare + 1
  | .agg parts => uptoBulkAll parts + 1
  | .iface _ d => uptoBulk d + 1
  | .map entries => uptoBulkEntries entries + 1
  | .held _ => 1
def uptoBulkAll {H : Type} : List (DataW H) → Nat
  | [] => 0
  | d :: r => uptoBulk d + uptoBulkAll r
def uptoBulkEntries {H : Type} : List (Lit × DataW H) → Nat
  | [] => 0
  | x :: r => uptoBulkEntry x + uptoBulkEntries r
def uptoBulkEntry {H : Type} : Lit × DataW H → Nat
  | (.string bytes, d) => bytes.length + uptoBulk d + 1
  | (_, d) => uptoBulk d + 1
 end
def uptoSmall : (H : Type) → List (DataW H) → Bool := fun _ ds => decide (uptoBulkAll ds ≤ 1048576)
def OpenSpec.upto (s : _root_.Go.ChangeSpec) : _root_.Go.OpenSpec := { _root_.Go.OpenSpec.ofChange s with cond := some uptoSmall }

/-- 'recensionlaw04.GaugeRates', WHERE WHAT IT READS IS OF BULK AT MOST 1048576: true; the input reads as it did. -/
def gaugeRatesUptoRow : OpenClaim := { program := "ytjlghmjngiegaaa", sum := "929aca846907431e60947c69dad21f4cc6fe3bf4fdf94d359177762910ba936b", func := "recension/recensionlaw04.GaugeRates", spec := "gaugeRates", inPlace := ["math.Float64bits", "math.Float64frombits"], unfollowed := true, recurses := true, apart := false, narrowed := true }
def GaugeRatesUptoSaid : Prop := gaugeRatesUptoRow.holds Try.pinned (OpenSpec.upto gaugeRatesSpec)

/-- 'recensionlaw04.GaugeMiddles', WHERE WHAT IT READS IS OF BULK AT MOST 1048576: true; the input reads as it did. -/
def gaugeMiddlesUptoRow : OpenClaim := { program := "ytjlghmjngiegaaa", sum := "929aca846907431e60947c69dad21f4cc6fe3bf4fdf94d359177762910ba936b", func := "recension/recensionlaw04.GaugeMiddles", spec := "gaugeMiddles", inPlace := ["math.Float64bits", "math.Float64frombits"], unfollowed := true, recurses := true, apart := false, narrowed := true }
def GaugeMiddlesUptoSaid : Prop := gaugeMiddlesUptoRow.holds Try.pinned (OpenSpec.upto gaugeMiddlesSpec)

/-- 'recensionlaw04.GaugeTotal', WHERE WHAT IT READS IS OF BULK AT MOST 1048576: true; the input reads as it did. -/
def gaugeTotalUptoRow : OpenClaim := { program := "ytjlghmjngiegaaa", sum := "929aca846907431e60947c69dad21f4cc6fe3bf4fdf94d359177762910ba936b", func := "recension/recensionlaw04.GaugeTotal", spec := "gaugeTotal", inPlace := ["math.Float64bits", "math.Float64frombits"], unfollowed := true, recurses := true, apart := false, narrowed := true }
def GaugeTotalUptoSaid : Prop := gaugeTotalUptoRow.holds Try.pinned (OpenSpec.upto gaugeTotalSpec)

/-- 'recensionlaw04.GaugeCmps', WHERE WHAT IT READS IS OF BULK AT MOST 1048576: true; the input reads as it did. -/
def gaugeCmpsUptoRow : OpenClaim := { program := "ytjlghmjngiegaaa", sum := "929aca846907431e60947c69dad21f4cc6fe3bf4fdf94d359177762910ba936b", func := "recension/recensionlaw04.GaugeCmps", spec := "gaugeCmps", inPlace := ["math.Float64bits", "math.Float64frombits"], unfollowed := true, recurses := true, apart := false, narrowed := true }
def GaugeCmpsUptoSaid : Prop := gaugeCmpsUptoRow.holds Try.pinned (OpenSpec.upto gaugeCmpsSpec)

/-- 'recensionlaw04.GaugeNothing', WHERE WHAT IT READS IS OF BULK AT MOST 1048576: true; the input reads as it did. -/
def gaugeNothingUptoRow : OpenClaim := { program := "ytjlghmjngiegaaa", sum := "929aca846907431e60947c69dad21f4cc6fe3bf4fdf94d359177762910ba936b", func := "recension/recensionlaw04.GaugeNothing", spec := "gaugeNothing", inPlace := ["math.Float64bits", "math.Float64frombits"], unfollowed := true, recurses := true, apart := false, narrowed := true }
def GaugeNothingUptoSaid : Prop := gaugeNothingUptoRow.holds Try.pinned (OpenSpec.upto gaugeNothingSpec)

/-- 'recensionlaw04.GaugeOnce', WHERE WHAT IT READS IS OF BULK AT MOST 1048576: true; the input reads as it did. -/
def gaugeOnceUptoRow : OpenClaim := { program := "ytjlghmjngiegaaa", sum := "929aca846907431e60947c69dad21f4cc6fe3bf4fdf94d359177762910ba936b", func := "recension/recensionlaw04.GaugeOnce", spec := "gaugeOnce", inPlace := ["math.Float64bits", "math.Float64frombits"], unfollowed := true, recurses := true, apart := false, narrowed := true }
def GaugeOnceUptoSaid : Prop := gaugeOnceUptoRow.holds Try.pinned (OpenSpec.upto gaugeOnceSpec)

/-- 'recensionlaw04.GaugeOrders', WHERE WHAT IT READS IS OF BULK AT MOST 1048576: true; the input reads as it did. -/
def gaugeOrdersUptoRow : OpenClaim := { program := "ytjlghmjngiegaaa", sum := "929aca846907431e60947c69dad21f4cc6fe3bf4fdf94d359177762910ba936b", func := "recension/recensionlaw04.GaugeOrders", spec := "gaugeOrders", inPlace := ["math.Float64bits", "math.Float64frombits"], unfollowed := true, recurses := true, apart := false, narrowed := true }
def GaugeOrdersUptoSaid : Prop := gaugeOrdersUptoRow.holds Try.pinned (OpenSpec.upto gaugeOrdersSpec)

end Rows
end Go.Proofs.Ytjlghmjngiegaaa
