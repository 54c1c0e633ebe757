/- SheetInserts: of whatever runs that grow, a new run whose stamp is on and newer than all others, added behind what a place tells, is in the text at that place, and all else is as it was. Conditions: none beyond the row's own (the two tables of unicode/utf8 as the program's text lays them, which the card ties). -/
import Derived.Test.YtphapjbfaomblaaDoorCards
import Derived.Test.YtphapjbfaomblaaDoorTie
import Derived.Test.YtphapjbfaomblaaDoorZb25
import Derived.Test.YtphapjbfaomblaaDoorZb26
import Derived.Test.YtphapjbfaomblaaDoorZcLB
namespace Go.Proofs.YtphapjbfaomblaaDoor.inserts
open Go.ChangeShapes Go.WideShapes Go.ChangeAt Go.RowKit Go.Shelf
open Go.ChangeMaps (open_string shut_string)
theorem witness_row (os : Os) {H : Type} (enc : TypeId × Value → H) :
    (OpenSpec.ofChange Rows.sheetInsertsSpec).preRow enc Tryd.prog Tryd.f8 [] false Rows.sheetInsertsRow.laid ((laidWorld os).forCall (fun _ _ => 0) ⟨#[], #[.slice none 0 0, .slice none 0 0, .int .u8 0, .int .u8 0], []⟩).memory #[.slice none 0 0, .slice none 0 0, .int .u8 0, .int .u8 0] := by
  have hw : (DataW.whole enc Tryd.prog ((laidWorld os).forCall (fun _ _ => 0) ⟨#[], #[.slice none 0 0, .slice none 0 0, .int .u8 0, .int .u8 0], []⟩).memory Tryd.f8.params.toList Rows.sheetInsertsSpec.vars false (#[.slice none 0 0, .slice none 0 0, .int .u8 0, .int .u8 0] : Array Value).toList 8).map (fun x => (x.1, x.2.1)) =
      some ([.nil, .nil, .lit (.int .u8 0), .lit (.int .u8 0)], []) := by kernel_rfl
  obtain ⟨⟨x1, x2, x3⟩, hx, hx1⟩ := Option.map_eq_some_iff.1 hw
  simp only [Prod.mk.injEq] at hx1
  obtain ⟨rfl, rfl⟩ := hx1
  exact OpenSpec.preRow_of_cond 8 hx (by kernel_rfl) (fun k hk => by cases hk) (by kernel_rfl) (laid_met os _)
set_option maxRecDepth 1000000 in
theorem contract (W : World) (base : Nat) (args : Array Value) {H : Type} (enc : TypeId × Value → H) (ds : List (DataW H)) (ps : List MemPlace)
    (hval : ∀ (j : Nat) t v, Tryd.f8.params[j]? = some t → args[j]? = some v → Value.okWide Tryd.prog W .any base t v)
    (hA : DataW.TrodAll enc Tryd.prog W 0 (fun _ => true) true Tryd.f8.params.toList args.toList ds ps) (hL : laidMetH Tryd.prog Rows.sheetInsertsRow.laid W) :
    Calls Tryd.prog 8 args W fun e W' => e = .returned (.bool true) ∧ Below W.heap.size W W' := by
  rw [Tryd.params8] at hA hval
  obtain ⟨v0, vs0, d0, ds0, p0, q0, hargs, rfl, rfl, h0, r0⟩ := trodAll_cons hA
  obtain ⟨v1, vs1, d1, ds1, p1, q1, rfl, rfl, rfl, h1, r1⟩ := trodAll_cons r0
  obtain ⟨v2, vs2, d2, ds2, p2, q2, rfl, rfl, rfl, h2, r2⟩ := trodAll_cons r1
  obtain ⟨v3, vs3, d3, ds3, p3, q3, rfl, rfl, rfl, h3, r3⟩ := trodAll_cons r2
  obtain ⟨rfl, rfl, rfl⟩ := trodAll_nil r3
  obtain rfl : args = #[v0, v1, v2, v3] := by cases args; simp_all
  obtain ⟨A0, n0, c0, L0, rfl, R0⟩ := open_picks (hval 0 36 v0 rfl rfl) h0
  obtain ⟨A1, n1, c1, L1, rfl, l1, R1⟩ := open_u8s (hval 1 48 v1 rfl rfl) h1
  obtain ⟨x2, rfl, rfl, rfl, w2⟩ := open_int Tryd.underlying5 (hval 2 5 v2 rfl rfl) h2
  have b2 := u8_bounds w2
  obtain ⟨x3, rfl, rfl, rfl, w3⟩ := open_int Tryd.underlying5 (hval 3 5 v3 rfl rfl) h3
  have b3 := u8_bounds w3
  exact inserts_walk L0 L1 x2 x3 A0 A1 n0 c0 n1 c1 W R0 R1 l1 b2 b3 (tabs_of hL)
theorem noInit : Tryd.checked.prog.inits.idxOf? 8 = none := by kernel_rfl
theorem lao : laidOutB Tryd.checked.prog = true := by kernel_rfl
theorem pok : ∀ t ∈ Tryd.f8.params.toList, Tryd.checked.prog.readableRec t = true ∧ t < Tryd.checked.prog.types.size := params_ok (by kernel_rfl)
set_option maxRecDepth 1000000 in
theorem c2 (W : World) (base : Nat) (args : Array Value) {H : Type} (enc : TypeId × Value → H) (ds : List (DataW H)) (ps : List MemPlace)
    (hval : ∀ (j : Nat) t v, Tryd.f8.params[j]? = some t → args[j]? = some v → Value.okWide Tryd.checked.prog W .any base t v)
    (hA : DataW.TrodAll enc Tryd.checked.prog W 0 (fun _ => true) true Tryd.f8.params.toList args.toList ds ps) (hL : laidMetH Tryd.checked.prog Rows.sheetInsertsRow.laid W) :
    Calls Tryd.checked.prog 8 args W fun e W' => e = .returned (.bool true) ∧ Below W.heap.size W W' := contract W base args enc ds ps hval hA hL
set_option maxRecDepth 1000000 in
theorem wit (os : Os) {H : Type} (enc : TypeId × Value → H) : ∃ (w : World) (tape : Tape) (i : Input), w.os = os ∧ (w.forCall tape i).Shaped Tryd.checked.prog ∧ i.vars = [] ∧ Input.okWide Tryd.checked.prog (w.forCall tape i) .any w.heap.size 8 i ∧
      (OpenSpec.ofChange Rows.sheetInsertsSpec).preRow enc Tryd.checked.prog Tryd.f8 [] false Rows.sheetInsertsRow.laid (w.forCall tape i).memory i.args ∧ ({} : Assume).holds Tryd.checked.prog (lone (Frame.enter Tryd.checked.prog 8 i.args .normal) [] (w.forCall tape i)) :=
  witness_row_atRef (enc := enc) (C := Tryd.checked) false (laidWorld os) #[.slice none 0 0, .slice none 0 0, .int .u8 0, .int .u8 0] rfl (by kernel_rfl) (by kernel_rfl) (by kernel_rfl) (witness_row os enc)
set_option maxRecDepth 1000000 in
theorem lifted (os : Os) (started : os.Started) {H : Type} (enc : TypeId × Value → H) (F : Stop.Interp) :
    ReturnsInHanded {} Tryd.checked os 8 .any ((OpenSpec.ofChange Rows.sheetInsertsSpec).preRow enc Tryd.checked.prog Tryd.f8 [] false Rows.sheetInsertsRow.laid) (((OpenSpec.ofChange Rows.sheetInsertsSpec).at F).post enc Tryd.checked.prog Tryd.f8 false true false false) :=
  law_lifted (C := Tryd.checked) (tb := 4) own started noInit Tryd.func8 (wit os enc) lao pok rfl rfl Tryd.underlying4 (fun ds h => match ds, h with | [_, _, _, _], _ => rfl) (fun W base args ds ps hval hA _ hL _ => c2 W base args enc ds ps hval hA hL)
theorem named : Tryd.prog.funcNamed "recension/recensionlaw11.SheetInserts" = some 8 := by kernel_rfl
theorem facts : joinedFacts Tryd.pinned.checked.prog 8 Tryd.f8 (OpenSpec.ofChange Rows.sheetInsertsSpec).bare Rows.sheetInsertsRow = true := by kernel_rfl
theorem inst : Tryd.f8.isInstance Tryd.pinned.checked.prog Rows.sheetInsertsRow.origin Rows.sheetInsertsRow.targs := of_decide_eq_true (by kernel_rfl)
theorem wrp : Tryd.f8.isWrapper Tryd.pinned.checked.prog Rows.sheetInsertsRow.wrapper Rows.sheetInsertsRow.mainSum := by unfold Func.isWrapper; first | (rw [if_pos (by decide +kernel)]; kernel_rfl) | (rw [if_neg (by decide +kernel)]; exact ⟨rfl, rfl⟩)
set_option maxRecDepth 1000000 in
theorem said : Rows.SheetInsertsSaid :=
  OpenClaim.holds_of_cond 8 Tryd.f8 rfl rfl rfl rfl rfl rfl rfl ⟨rfl, rfl, rfl, rfl, rfl⟩ rfl rfl rfl rfl rfl named Tryd.func8 facts inst wrp
    (fun os started H enc _ F => by
      rw [OpenClaim.pre_eq_preRow]
      exact lifted os started enc F)
set_option maxRecDepth 1000000 in
theorem plain (f : FuncId) (fn : Func) (hf : Tryd.pinned.checked.prog.funcNamed "recension/recensionlaw11.SheetInserts" = some f) (hfn : Tryd.pinned.checked.prog.funcs[f]? = some fn) :
    false = Tryd.pinned.checked.prog.looks [] ∧ ∀ (j : Nat) t, fn.params[j]? = some t → Tryd.pinned.checked.prog.wantsStandIn t = false := by
  obtain rfl : f = 8 := Option.some.inj ((show Tryd.prog.funcNamed "recension/recensionlaw11.SheetInserts" = some 8 by kernel_rfl).symm.trans hf) |>.symm
  obtain rfl : fn = Tryd.f8 := (Option.some.inj (Tryd.func8.symm.trans hfn)).symm
  refine ⟨by kernel_rfl, fun j t ht => ?_⟩
  rw [Tryd.params8] at ht
  have hm : t ∈ [36, 48, 5, 5] := by have := Array.mem_of_getElem? ht; simpa using this
  simp only [List.mem_cons, List.mem_nil_iff, or_false] at hm
  rcases hm with rfl | rfl | rfl | rfl
  all_goals first | exact (show Tryd.prog.wantsStandIn 36 = false by kernel_rfl) | exact (show Tryd.prog.wantsStandIn 48 = false by kernel_rfl) | exact (show Tryd.prog.wantsStandIn 5 = false by kernel_rfl)
theorem card : Rows.SheetInsertsCardSaid :=
  Claim7.holds_tied_plain_at .later [] _ _ _ _ said (fun _ h => by cases h) (by kernel_rfl) (fun _ h => by cases h) sheetInserts_row_tie rfl ⟨rfl, rfl⟩ (by kernel_rfl) rfl plain (by kernel_rfl)
end Go.Proofs.YtphapjbfaomblaaDoor.inserts
