/-
  No cell of these rows narrows 'for every input' (looked for: loops, veiled, ifaces, maps, wideKeys, modest, calm, conditions, laid).
  DERIVED. THE GIVEN ROWS OF THIS SEAT. 15 by the template 'for every input the law returns true; each argument reads behind the call as it read before'; 0 by the template 'total and deterministic' (their statements: YtejafcdlkpmemaaTotals.lean).
  GIVEN WITH THE SEED: the statements are not yours to turn. If you find one false, say at which input.
  Laid BY PROGRAM, IN A SANDBOX (cutbox-rows.mjs): the forced cells as the released guide's own fill.sh prints them over the translation 7e7f7589486457b2… (all of the seat's roots in one cut). By AI agents, Wed Nov 11 2026. No macro, syntax, notation, axiom, sorry.
-/
import Derived.Test.YtejafcdlkpmemaaChecked
import GoSem.Claim
import GoSem.ClaimJoined
import GoSem.ClaimMapViews
import Derived.JoinedTies
import Derived.KernelRfl
namespace Go.Proofs.Ytejafcdlkpmemaa
/- THE CELL 'sum', in the pinned program and in every row, IS THE sha256 OF THE DUMP (.gsa) THAT YtejafcdlkpmemaaProg.lean LOADS. Nothing in Lean hashes anything: it is a label: what it is worth is what the hold of that sum in a sandbox is worth. -/
noncomputable def Try.pinned : Pinned := { name := "ytejafcdlkpmemaa", sum := "7e7f7589486457b258bb2c0d3752b6916a9cd3d35f16f27f6de9f7a429129538", checked := Try.checked }
namespace Rows
def none {H : Type} : Left H := { results := [], args := [] }

/-- 'recensionlaw14.LiveNodes': WHATEVER THE INPUT: true; the input reads as it did. -/
def liveNodesSpec : ChangeSpec := { name := "liveNodes", fn := fun _ => fun
  | [d1, d2, d3] => { results := [.lit (.bool true)], args := [d1, d2, d3] }
  | _ => none }
def liveNodesRow : OpenClaim := { program := "ytejafcdlkpmemaa", sum := "7e7f7589486457b258bb2c0d3752b6916a9cd3d35f16f27f6de9f7a429129538", func := "recension/recensionlaw14.LiveNodes", spec := "liveNodes", unfollowed := true, recurses := true, plainKeys := false, apart := false }
def LiveNodesSaid : Prop := liveNodesRow.holds Try.pinned (OpenSpec.ofChange liveNodesSpec)

/-- ITS FALSE NEIGHBOUR: 'it returns false'. Refute it at one input. -/
def liveNodesWrong : ChangeSpec := { name := "liveNodes", fn := fun _ => fun
  | [d1, d2, d3] => { results := [.lit (.bool false)], args := [d1, d2, d3] }
  | _ => none }
def LiveNodesWrongFalsely : Prop := liveNodesRow.holds Try.pinned (OpenSpec.ofChange liveNodesWrong)

/-- 'recensionlaw14.LiveSmall': WHATEVER THE INPUT: true; the input reads as it did. -/
def liveSmallSpec : ChangeSpec := { name := "liveSmall", fn := fun _ => fun
  | [d1, d2, d3] => { results := [.lit (.bool true)], args := [d1, d2, d3] }
  | _ => none }
def liveSmallRow : OpenClaim := { program := "ytejafcdlkpmemaa", sum := "7e7f7589486457b258bb2c0d3752b6916a9cd3d35f16f27f6de9f7a429129538", func := "recension/recensionlaw14.LiveSmall", spec := "liveSmall", unfollowed := true, recurses := true, plainKeys := false, apart := false }
def LiveSmallSaid : Prop := liveSmallRow.holds Try.pinned (OpenSpec.ofChange liveSmallSpec)

/-- ITS FALSE NEIGHBOUR: 'it returns false'. Refute it at one input. -/
def liveSmallWrong : ChangeSpec := { name := "liveSmall", fn := fun _ => fun
  | [d1, d2, d3] => { results := [.lit (.bool false)], args := [d1, d2, d3] }
  | _ => none }
def LiveSmallWrongFalsely : Prop := liveSmallRow.holds Try.pinned (OpenSpec.ofChange liveSmallWrong)

/-- 'recensionlaw14.LiveDrops': WHATEVER THE INPUT: true; the input reads as it did. -/
def liveDropsSpec : ChangeSpec := { name := "liveDrops", fn := fun _ => fun
  | [d1, d2, d3] => { results := [.lit (.bool true)], args := [d1, d2, d3] }
  | _ => none }
def liveDropsRow : OpenClaim := { program := "ytejafcdlkpmemaa", sum := "7e7f7589486457b258bb2c0d3752b6916a9cd3d35f16f27f6de9f7a429129538", func := "recension/recensionlaw14.LiveDrops", spec := "liveDrops", unfollowed := true, recurses := true, plainKeys := false, apart := false }
def LiveDropsSaid : Prop := liveDropsRow.holds Try.pinned (OpenSpec.ofChange liveDropsSpec)

/-- ITS FALSE NEIGHBOUR: 'it returns false'. Refute it at one input. -/
def liveDropsWrong : ChangeSpec := { name := "liveDrops", fn := fun _ => fun
  | [d1, d2, d3] => { results := [.lit (.bool false)], args := [d1, d2, d3] }
  | _ => none }
def LiveDropsWrongFalsely : Prop := liveDropsRow.holds Try.pinned (OpenSpec.ofChange liveDropsWrong)

/-- 'recensionlaw14.LiveOrder': WHATEVER THE INPUT: true; the input reads as it did. -/
def liveOrderSpec : ChangeSpec := { name := "liveOrder", fn := fun _ => fun
  | [d1, d2, d3] => { results := [.lit (.bool true)], args := [d1, d2, d3] }
  | _ => none }
def liveOrderRow : OpenClaim := { program := "ytejafcdlkpmemaa", sum := "7e7f7589486457b258bb2c0d3752b6916a9cd3d35f16f27f6de9f7a429129538", func := "recension/recensionlaw14.LiveOrder", spec := "liveOrder", unfollowed := true, recurses := true, plainKeys := false, apart := false }
def LiveOrderSaid : Prop := liveOrderRow.holds Try.pinned (OpenSpec.ofChange liveOrderSpec)

/-- ITS FALSE NEIGHBOUR: 'it returns false'. Refute it at one input. -/
def liveOrderWrong : ChangeSpec := { name := "liveOrder", fn := fun _ => fun
  | [d1, d2, d3] => { results := [.lit (.bool false)], args := [d1, d2, d3] }
  | _ => none }
def LiveOrderWrongFalsely : Prop := liveOrderRow.holds Try.pinned (OpenSpec.ofChange liveOrderWrong)

/-- 'recensionlaw12.EffectOn': WHATEVER THE INPUT: true; the input reads as it did. -/
def effectOnSpec : ChangeSpec := { name := "effectOn", fn := fun _ => fun
  | [d1, d2, d3] => { results := [.lit (.bool true)], args := [d1, d2, d3] }
  | _ => none }
def effectOnRow : OpenClaim := { program := "ytejafcdlkpmemaa", sum := "7e7f7589486457b258bb2c0d3752b6916a9cd3d35f16f27f6de9f7a429129538", func := "recension/recensionlaw12.EffectOn", spec := "effectOn", unfollowed := true, recurses := true, plainKeys := false, apart := false }
def EffectOnSaid : Prop := effectOnRow.holds Try.pinned (OpenSpec.ofChange effectOnSpec)

/-- ITS FALSE NEIGHBOUR: 'it returns false'. Refute it at one input. -/
def effectOnWrong : ChangeSpec := { name := "effectOn", fn := fun _ => fun
  | [d1, d2, d3] => { results := [.lit (.bool false)], args := [d1, d2, d3] }
  | _ => none }
def EffectOnWrongFalsely : Prop := effectOnRow.holds Try.pinned (OpenSpec.ofChange effectOnWrong)

/-- 'recensionlaw12.EffectSmall': WHATEVER THE INPUT: true; the input reads as it did. -/
def effectSmallSpec : ChangeSpec := { name := "effectSmall", fn := fun _ => fun
  | [d1, d2, d3] => { results := [.lit (.bool true)], args := [d1, d2, d3] }
  | _ => none }
def effectSmallRow : OpenClaim := { program := "ytejafcdlkpmemaa", sum := "7e7f7589486457b258bb2c0d3752b6916a9cd3d35f16f27f6de9f7a429129538", func := "recension/recensionlaw12.EffectSmall", spec := "effectSmall", unfollowed := true, recurses := true, plainKeys := false, apart := false }
def EffectSmallSaid : Prop := effectSmallRow.holds Try.pinned (OpenSpec.ofChange effectSmallSpec)

/-- ITS FALSE NEIGHBOUR: 'it returns false'. Refute it at one input. -/
def effectSmallWrong : ChangeSpec := { name := "effectSmall", fn := fun _ => fun
  | [d1, d2, d3] => { results := [.lit (.bool false)], args := [d1, d2, d3] }
  | _ => none }
def EffectSmallWrongFalsely : Prop := effectSmallRow.holds Try.pinned (OpenSpec.ofChange effectSmallWrong)

/-- 'recensionlaw12.EffectOrder': WHATEVER THE INPUT: true; the input reads as it did. -/
def effectOrderSpec : ChangeSpec := { name := "effectOrder", fn := fun _ => fun
  | [d] => { results := [.lit (.bool true)], args := [d] }
  | _ => none }
def effectOrderRow : OpenClaim := { program := "ytejafcdlkpmemaa", sum := "7e7f7589486457b258bb2c0d3752b6916a9cd3d35f16f27f6de9f7a429129538", func := "recension/recensionlaw12.EffectOrder", spec := "effectOrder", unfollowed := true, recurses := true, plainKeys := false, apart := false }
def EffectOrderSaid : Prop := effectOrderRow.holds Try.pinned (OpenSpec.ofChange effectOrderSpec)

/-- ITS FALSE NEIGHBOUR: 'it returns false'. Refute it at one input. -/
def effectOrderWrong : ChangeSpec := { name := "effectOrder", fn := fun _ => fun
  | [d] => { results := [.lit (.bool false)], args := [d] }
  | _ => none }
def EffectOrderWrongFalsely : Prop := effectOrderRow.holds Try.pinned (OpenSpec.ofChange effectOrderWrong)

/-- 'recensionlaw12.EffectLater': WHATEVER THE INPUT: true; the input reads as it did. -/
def effectLaterSpec : ChangeSpec := { name := "effectLater", fn := fun _ => fun
  | [d1, d2] => { results := [.lit (.bool true)], args := [d1, d2] }
  | _ => none }
def effectLaterRow : OpenClaim := { program := "ytejafcdlkpmemaa", sum := "7e7f7589486457b258bb2c0d3752b6916a9cd3d35f16f27f6de9f7a429129538", func := "recension/recensionlaw12.EffectLater", spec := "effectLater", unfollowed := true, recurses := true, plainKeys := false, apart := false }
def EffectLaterSaid : Prop := effectLaterRow.holds Try.pinned (OpenSpec.ofChange effectLaterSpec)

/-- ITS FALSE NEIGHBOUR: 'it returns false'. Refute it at one input. -/
def effectLaterWrong : ChangeSpec := { name := "effectLater", fn := fun _ => fun
  | [d1, d2] => { results := [.lit (.bool false)], args := [d1, d2] }
  | _ => none }
def EffectLaterWrongFalsely : Prop := effectLaterRow.holds Try.pinned (OpenSpec.ofChange effectLaterWrong)

/-- 'recensionlaw12.EffectTurns': WHATEVER THE INPUT: true; the input reads as it did. -/
def effectTurnsSpec : ChangeSpec := { name := "effectTurns", fn := fun _ => fun
  | [d] => { results := [.lit (.bool true)], args := [d] }
  | _ => none }
def effectTurnsRow : OpenClaim := { program := "ytejafcdlkpmemaa", sum := "7e7f7589486457b258bb2c0d3752b6916a9cd3d35f16f27f6de9f7a429129538", func := "recension/recensionlaw12.EffectTurns", spec := "effectTurns", unfollowed := true, recurses := true, plainKeys := false, apart := false }
def EffectTurnsSaid : Prop := effectTurnsRow.holds Try.pinned (OpenSpec.ofChange effectTurnsSpec)

/-- ITS FALSE NEIGHBOUR: 'it returns false'. Refute it at one input. -/
def effectTurnsWrong : ChangeSpec := { name := "effectTurns", fn := fun _ => fun
  | [d] => { results := [.lit (.bool false)], args := [d] }
  | _ => none }
def EffectTurnsWrongFalsely : Prop := effectTurnsRow.holds Try.pinned (OpenSpec.ofChange effectTurnsWrong)

/-- 'recensionlaw13.PlaceReplays': WHATEVER THE INPUT: true; the input reads as it did. -/
def placeReplaysSpec : ChangeSpec := { name := "placeReplays", fn := fun _ => fun
  | [d1, d2] => { results := [.lit (.bool true)], args := [d1, d2] }
  | _ => none }
def placeReplaysRow : OpenClaim := { program := "ytejafcdlkpmemaa", sum := "7e7f7589486457b258bb2c0d3752b6916a9cd3d35f16f27f6de9f7a429129538", func := "recension/recensionlaw13.PlaceReplays", spec := "placeReplays", unfollowed := true, recurses := true, plainKeys := false, apart := false }
def PlaceReplaysSaid : Prop := placeReplaysRow.holds Try.pinned (OpenSpec.ofChange placeReplaysSpec)

/-- ITS FALSE NEIGHBOUR: 'it returns false'. Refute it at one input. -/
def placeReplaysWrong : ChangeSpec := { name := "placeReplays", fn := fun _ => fun
  | [d1, d2] => { results := [.lit (.bool false)], args := [d1, d2] }
  | _ => none }
def PlaceReplaysWrongFalsely : Prop := placeReplaysRow.holds Try.pinned (OpenSpec.ofChange placeReplaysWrong)

/-- 'recensionlaw13.PlaceWithins': WHATEVER THE INPUT: true; the input reads as it did. -/
def placeWithinsSpec : ChangeSpec := { name := "placeWithins", fn := fun _ => fun
  | [d1, d2, d3] => { results := [.lit (.bool true)], args := [d1, d2, d3] }
  | _ => none }
def placeWithinsRow : OpenClaim := { program := "ytejafcdlkpmemaa", sum := "7e7f7589486457b258bb2c0d3752b6916a9cd3d35f16f27f6de9f7a429129538", func := "recension/recensionlaw13.PlaceWithins", spec := "placeWithins", unfollowed := true, recurses := true, plainKeys := false, apart := false }
def PlaceWithinsSaid : Prop := placeWithinsRow.holds Try.pinned (OpenSpec.ofChange placeWithinsSpec)

/-- ITS FALSE NEIGHBOUR: 'it returns false'. Refute it at one input. -/
def placeWithinsWrong : ChangeSpec := { name := "placeWithins", fn := fun _ => fun
  | [d1, d2, d3] => { results := [.lit (.bool false)], args := [d1, d2, d3] }
  | _ => none }
def PlaceWithinsWrongFalsely : Prop := placeWithinsRow.holds Try.pinned (OpenSpec.ofChange placeWithinsWrong)

/-- 'recensionlaw13.PlaceSmall': WHATEVER THE INPUT: true; the input reads as it did. -/
def placeSmallSpec : ChangeSpec := { name := "placeSmall", fn := fun _ => fun
  | [d1, d2, d3] => { results := [.lit (.bool true)], args := [d1, d2, d3] }
  | _ => none }
def placeSmallRow : OpenClaim := { program := "ytejafcdlkpmemaa", sum := "7e7f7589486457b258bb2c0d3752b6916a9cd3d35f16f27f6de9f7a429129538", func := "recension/recensionlaw13.PlaceSmall", spec := "placeSmall", unfollowed := true, recurses := true, plainKeys := false, apart := false }
def PlaceSmallSaid : Prop := placeSmallRow.holds Try.pinned (OpenSpec.ofChange placeSmallSpec)

/-- ITS FALSE NEIGHBOUR: 'it returns false'. Refute it at one input. -/
def placeSmallWrong : ChangeSpec := { name := "placeSmall", fn := fun _ => fun
  | [d1, d2, d3] => { results := [.lit (.bool false)], args := [d1, d2, d3] }
  | _ => none }
def PlaceSmallWrongFalsely : Prop := placeSmallRow.holds Try.pinned (OpenSpec.ofChange placeSmallWrong)

/-- 'recensionlaw13.PlaceCircles': WHATEVER THE INPUT: true; the input reads as it did. -/
def placeCirclesSpec : ChangeSpec := { name := "placeCircles", fn := fun _ => fun
  | [d1, d2] => { results := [.lit (.bool true)], args := [d1, d2] }
  | _ => none }
def placeCirclesRow : OpenClaim := { program := "ytejafcdlkpmemaa", sum := "7e7f7589486457b258bb2c0d3752b6916a9cd3d35f16f27f6de9f7a429129538", func := "recension/recensionlaw13.PlaceCircles", spec := "placeCircles", unfollowed := true, recurses := true, plainKeys := false, apart := false }
def PlaceCirclesSaid : Prop := placeCirclesRow.holds Try.pinned (OpenSpec.ofChange placeCirclesSpec)

/-- ITS FALSE NEIGHBOUR: 'it returns false'. Refute it at one input. -/
def placeCirclesWrong : ChangeSpec := { name := "placeCircles", fn := fun _ => fun
  | [d1, d2] => { results := [.lit (.bool false)], args := [d1, d2] }
  | _ => none }
def PlaceCirclesWrongFalsely : Prop := placeCirclesRow.holds Try.pinned (OpenSpec.ofChange placeCirclesWrong)

/-- 'recensionlaw13.PlaceOrder': WHATEVER THE INPUT: true; the input reads as it did. -/
def placeOrderSpec : ChangeSpec := { name := "placeOrder", fn := fun _ => fun
  | [d1, d2] => { results := [.lit (.bool true)], args := [d1, d2] }
  | _ => none }
def placeOrderRow : OpenClaim := { program := "ytejafcdlkpmemaa", sum := "7e7f7589486457b258bb2c0d3752b6916a9cd3d35f16f27f6de9f7a429129538", func := "recension/recensionlaw13.PlaceOrder", spec := "placeOrder", unfollowed := true, recurses := true, plainKeys := false, apart := false }
def PlaceOrderSaid : Prop := placeOrderRow.holds Try.pinned (OpenSpec.ofChange placeOrderSpec)

/-- ITS FALSE NEIGHBOUR: 'it returns false'. Refute it at one input. -/
def placeOrderWrong : ChangeSpec := { name := "placeOrder", fn := fun _ => fun
  | [d1, d2] => { results := [.lit (.bool false)], args := [d1, d2] }
  | _ => none }
def PlaceOrderWrongFalsely : Prop := placeOrderRow.holds Try.pinned (OpenSpec.ofChange placeOrderWrong)

/-- 'recensionlaw13.PlaceLast': WHATEVER THE INPUT: true; the input reads as it did. -/
def placeLastSpec : ChangeSpec := { name := "placeLast", fn := fun _ => fun
  | [d1, d2, d3] => { results := [.lit (.bool true)], args := [d1, d2, d3] }
  | _ => none }
def placeLastRow : OpenClaim := { program := "ytejafcdlkpmemaa", sum := "7e7f7589486457b258bb2c0d3752b6916a9cd3d35f16f27f6de9f7a429129538", func := "recension/recensionlaw13.PlaceLast", spec := "placeLast", unfollowed := true, recurses := true, plainKeys := false, apart := false }
def PlaceLastSaid : Prop := placeLastRow.holds Try.pinned (OpenSpec.ofChange placeLastSpec)

/-- ITS FALSE NEIGHBOUR: 'it returns false'. Refute it at one input. -/
def placeLastWrong : ChangeSpec := { name := "placeLast", fn := fun _ => fun
  | [d1, d2, d3] => { results := [.lit (.bool false)], args := [d1, d2, d3] }
  | _ => none }
def PlaceLastWrongFalsely : Prop := placeLastRow.holds Try.pinned (OpenSpec.ofChange placeLastWrong)

/- THE SECOND FORM. 'bulk': how many values and letters a reading holds, each counted each time it is reached (what is shared counts as often as it is met; a slice's spare places count too). A statement '..UptoSaid' is the law's where the arguments, and the package variables that the reading takes, are together of bulk at most 1048576: NARROWER than '..Said'. Prove '..Said' where nothing that the law and all that it calls make is longer than what came in: it says more and counts as full. Else prove '..UptoSaid'. A law counts once. -/
mutual
def uptoBulk {H : Type} : DataW H → Nat
  | .lit (.string bytes) => bytes.length + 1
  | .lit _ => 1
  | .nil => 1
  | .ptr d => uptoBulk d + 1
  | .slice elems spare => uptoBulkAll elems + uptoBulkAll spare + 1
  | .agg parts => uptoBulkAll parts + 1
  | .iface _ d => uptoBulk d + 1
  | .map entries => uptoBulkEntries entries + 1
  | .held _ => 1
def uptoBulkAll {H : Type} : List (DataW H) → Nat
  | [] => 0
  | d :: r => uptoBulk d + uptoBulkAll r
def uptoBulkEntries {H : Type} : List (Lit × DataW H) → Nat
  | [] => 0
  | x :: r => uptoBulkEntry x + uptoBulkEntries r
def uptoBulkEntry {H : Type} : Lit × DataW H → Nat
  | (.string bytes, d) => bytes.length + uptoBulk d + 1
  | (_, d) => uptoBulk d + 1
 end
def uptoSmall : (H : Type) → List (DataW H) → Bool := fun _ ds => decide (uptoBulkAll ds ≤ 1048576)
def OpenSpec.upto (s : _root_.Go.ChangeSpec) : _root_.Go.OpenSpec := { _root_.Go.OpenSpec.ofChange s with cond := some uptoSmall }

/-- 'recensionlaw14.LiveNodes', WHERE WHAT IT READS IS OF BULK AT MOST 1048576: true; the input reads as it did. -/
def liveNodesUptoRow : OpenClaim := { program := "ytejafcdlkpmemaa", sum := "7e7f7589486457b258bb2c0d3752b6916a9cd3d35f16f27f6de9f7a429129538", func := "recension/recensionlaw14.LiveNodes", spec := "liveNodes", unfollowed := true, recurses := true, plainKeys := false, apart := false, narrowed := true }
def LiveNodesUptoSaid : Prop := liveNodesUptoRow.holds Try.pinned (OpenSpec.upto liveNodesSpec)

/-- 'recensionlaw14.LiveSmall', WHERE WHAT IT READS IS OF BULK AT MOST 1048576: true; the input reads as it did. -/
def liveSmallUptoRow : OpenClaim := { program := "ytejafcdlkpmemaa", sum := "7e7f7589486457b258bb2c0d3752b6916a9cd3d35f16f27f6de9f7a429129538", func := "recension/recensionlaw14.LiveSmall", spec := "liveSmall", unfollowed := true, recurses := true, plainKeys := false, apart := false, narrowed := true }
def LiveSmallUptoSaid : Prop := liveSmallUptoRow.holds Try.pinned (OpenSpec.upto liveSmallSpec)

/-- 'recensionlaw14.LiveDrops', WHERE WHAT IT READS IS OF BULK AT MOST 1048576: true; the input reads as it did. -/
def liveDropsUptoRow : OpenClaim := { program := "ytejafcdlkpmemaa", sum := "7e7f7589486457b258bb2c0d3752b6916a9cd3d35f16f27f6de9f7a429129538", func := "recension/recensionlaw14.LiveDrops", spec := "liveDrops", unfollowed := true, recurses := true, plainKeys := false, apart := false, narrowed := true }
def LiveDropsUptoSaid : Prop := liveDropsUptoRow.holds Try.pinned (OpenSpec.upto liveDropsSpec)

/-- 'recensionlaw14.LiveOrder', WHERE WHAT IT READS IS OF BULK AT MOST 1048576: true; the input reads as it did. -/
def liveOrderUptoRow : OpenClaim := { program := "ytejafcdlkpmemaa", sum := "7e7f7589486457b258bb2c0d3752b6916a9cd3d35f16f27f6de9f7a429129538", func := "recension/recensionlaw14.LiveOrder", spec := "liveOrder", unfollowed := true, recurses := true, plainKeys := false, apart := false, narrowed := true }
def LiveOrderUptoSaid : Prop := liveOrderUptoRow.holds Try.pinned (OpenSpec.upto liveOrderSpec)

/-- 'recensionlaw12.EffectOn', WHERE WHAT IT READS IS OF BULK AT MOST 1048576: true; the input reads as it did. -/
def effectOnUptoRow : OpenClaim := { program := "ytejafcdlkpmemaa", sum := "7e7f7589486457b258bb2c0d3752b6916a9cd3d35f16f27f6de9f7a429129538", func := "recension/recensionlaw12.EffectOn", spec := "effectOn", unfollowed := true, recurses := true, plainKeys := false, apart := false, narrowed := true }
def EffectOnUptoSaid : Prop := effectOnUptoRow.holds Try.pinned (OpenSpec.upto effectOnSpec)

/-- 'recensionlaw12.EffectSmall', WHERE WHAT IT READS IS OF BULK AT MOST 1048576: true; the input reads as it did. -/
def effectSmallUptoRow : OpenClaim := { program := "ytejafcdlkpmemaa", sum := "7e7f7589486457b258bb2c0d3752b6916a9cd3d35f16f27f6de9f7a429129538", func := "recension/recensionlaw12.EffectSmall", spec := "effectSmall", unfollowed := true, recurses := true, plainKeys := false, apart := false, narrowed := true }
def EffectSmallUptoSaid : Prop := effectSmallUptoRow.holds Try.pinned (OpenSpec.upto effectSmallSpec)

/-- 'recensionlaw12.EffectOrder', WHERE WHAT IT READS IS OF BULK AT MOST 1048576: true; the input reads as it did. -/
def effectOrderUptoRow : OpenClaim := { program := "ytejafcdlkpmemaa", sum := "7e7f7589486457b258bb2c0d3752b6916a9cd3d35f16f27f6de9f7a429129538", func := "recension/recensionlaw12.EffectOrder", spec := "effectOrder", unfollowed := true, recurses := true, plainKeys := false, apart := false, narrowed := true }
def EffectOrderUptoSaid : Prop := effectOrderUptoRow.holds Try.pinned (OpenSpec.upto effectOrderSpec)

/-- 'recensionlaw12.EffectLater', WHERE WHAT IT READS IS OF BULK AT MOST 1048576: true; the input reads as it did. -/
def effectLaterUptoRow : OpenClaim := { program := "ytejafcdlkpmemaa", sum := "7e7f7589486457b258bb2c0d3752b6916a9cd3d35f16f27f6de9f7a429129538", func := "recension/recensionlaw12.EffectLater", spec := "effectLater", unfollowed := true, recurses := true, plainKeys := false, apart := false, narrowed := true }
def EffectLaterUptoSaid : Prop := effectLaterUptoRow.holds Try.pinned (OpenSpec.upto effectLaterSpec)

/-- 'recensionlaw12.EffectTurns', WHERE WHAT IT READS IS OF BULK AT MOST 1048576: true; the input reads as it did. -/
def effectTurnsUptoRow : OpenClaim := { program := "ytejafcdlkpmemaa", sum := "7e7f7589486457b258bb2c0d3752b6916a9cd3d35f16f27f6de9f7a429129538", func := "recension/recensionlaw12.EffectTurns", spec := "effectTurns", unfollowed := true, recurses := true, plainKeys := false, apart := false, narrowed := true }
def EffectTurnsUptoSaid : Prop := effectTurnsUptoRow.holds Try.pinned (OpenSpec.upto effectTurnsSpec)

/-- 'recensionlaw13.PlaceReplays', WHERE WHAT IT READS IS OF BULK AT MOST 1048576: true; the input reads as it did. -/
def placeReplaysUptoRow : OpenClaim := { program := "ytejafcdlkpmemaa", sum := "7e7f7589486457b258bb2c0d3752b6916a9cd3d35f16f27f6de9f7a429129538", func := "recension/recensionlaw13.PlaceReplays", spec := "placeReplays", unfollowed := true, recurses := true, plainKeys := false, apart := false, narrowed := true }
def PlaceReplaysUptoSaid : Prop := placeReplaysUptoRow.holds Try.pinned (OpenSpec.upto placeReplaysSpec)

/-- 'recensionlaw13.PlaceWithins', WHERE WHAT IT READS IS OF BULK AT MOST 1048576: true; the input reads as it did. -/
def placeWithinsUptoRow : OpenClaim := { program := "ytejafcdlkpmemaa", sum := "7e7f7589486457b258bb2c0d3752b6916a9cd3d35f16f27f6de9f7a429129538", func := "recension/recensionlaw13.PlaceWithins", spec := "placeWithins", unfollowed := true, recurses := true, plainKeys := false, apart := false, narrowed := true }
def PlaceWithinsUptoSaid : Prop := placeWithinsUptoRow.holds Try.pinned (OpenSpec.upto placeWithinsSpec)

/-- 'recensionlaw13.PlaceSmall', WHERE WHAT IT READS IS OF BULK AT MOST 1048576: true; the input reads as it did. -/
def placeSmallUptoRow : OpenClaim := { program := "ytejafcdlkpmemaa", sum := "7e7f7589486457b258bb2c0d3752b6916a9cd3d35f16f27f6de9f7a429129538", func := "recension/recensionlaw13.PlaceSmall", spec := "placeSmall", unfollowed := true, recurses := true, plainKeys := false, apart := false, narrowed := true }
def PlaceSmallUptoSaid : Prop := placeSmallUptoRow.holds Try.pinned (OpenSpec.upto placeSmallSpec)

/-- 'recensionlaw13.PlaceCircles', WHERE WHAT IT READS IS OF BULK AT MOST 1048576: true; the input reads as it did. -/
def placeCirclesUptoRow : OpenClaim := { program := "ytejafcdlkpmemaa", sum := "7e7f7589486457b258bb2c0d3752b6916a9cd3d35f16f27f6de9f7a429129538", func := "recension/recensionlaw13.PlaceCircles", spec := "placeCircles", unfollowed := true, recurses := true, plainKeys := false, apart := false, narrowed := true }
def PlaceCirclesUptoSaid : Prop := placeCirclesUptoRow.holds Try.pinned (OpenSpec.upto placeCirclesSpec)

/-- 'recensionlaw13.PlaceOrder', WHERE WHAT IT READS IS OF BULK AT MOST 1048576: true; the input reads as it did. -/
def placeOrderUptoRow : OpenClaim := { program := "ytejafcdlkpmemaa", sum := "7e7f7589486457b258bb2c0d3752b6916a9cd3d35f16f27f6de9f7a429129538", func := "recension/recensionlaw13.PlaceOrder", spec := "placeOrder", unfollowed := true, recurses := true, plainKeys := false, apart := false, narrowed := true }
def PlaceOrderUptoSaid : Prop := placeOrderUptoRow.holds Try.pinned (OpenSpec.upto placeOrderSpec)

/-- 'recensionlaw13.PlaceLast', WHERE WHAT IT READS IS OF BULK AT MOST 1048576: true; the input reads as it did. -/
def placeLastUptoRow : OpenClaim := { program := "ytejafcdlkpmemaa", sum := "7e7f7589486457b258bb2c0d3752b6916a9cd3d35f16f27f6de9f7a429129538", func := "recension/recensionlaw13.PlaceLast", spec := "placeLast", unfollowed := true, recurses := true, plainKeys := false, apart := false, narrowed := true }
def PlaceLastUptoSaid : Prop := placeLastUptoRow.holds Try.pinned (OpenSpec.upto placeLastSpec)

end Rows
end Go.Proofs.Ytejafcdlkpmemaa
