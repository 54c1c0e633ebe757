/- SheetGrows: of whatever runs that grow, a sheet answers what the document answers: each addition, what is set, what is taken and given back, the text and the length. Conditions: none beyond the row's own (the two tables of unicode/utf8 as the program's text lays them, which the card ties). -/
import Derived.Test.YtphapjbfaomblaaDoorCards
import Derived.Test.YtphapjbfaomblaaDoorTie
import Derived.Test.YtphapjbfaomblaaDoorZb25
import Derived.Test.YtphapjbfaomblaaDoorZb26
import Derived.Test.YtphapjbfaomblaaDoorZcLF
namespace Go.Proofs.YtphapjbfaomblaaDoor.grows
open Go.ChangeShapes Go.WideShapes Go.ChangeAt Go.RowKit Go.Shelf
open Go.ChangeMaps (open_string shut_string)
theorem witness_row (os : Os) {H : Type} (enc : TypeId × Value → H) :
    (OpenSpec.ofChange Rows.sheetGrowsSpec).preRow enc Tryd.prog Tryd.f7 [] false Rows.sheetGrowsRow.laid ((laidWorld os).forCall (fun _ _ => 0) ⟨#[], #[.slice none 0 0, .int .u16 0, .slice none 0 0], []⟩).memory #[.slice none 0 0, .int .u16 0, .slice none 0 0] := by
  have hw : (DataW.whole enc Tryd.prog ((laidWorld os).forCall (fun _ _ => 0) ⟨#[], #[.slice none 0 0, .int .u16 0, .slice none 0 0], []⟩).memory Tryd.f7.params.toList Rows.sheetGrowsSpec.vars false (#[.slice none 0 0, .int .u16 0, .slice none 0 0] : Array Value).toList 8).map (fun x => (x.1, x.2.1)) =
      some ([.nil, .lit (.int .u16 0), .nil], []) := by kernel_rfl
  obtain ⟨⟨x1, x2, x3⟩, hx, hx1⟩ := Option.map_eq_some_iff.1 hw
  simp only [Prod.mk.injEq] at hx1
  obtain ⟨rfl, rfl⟩ := hx1
  exact OpenSpec.preRow_of_cond 8 hx (by kernel_rfl) (fun k hk => by cases hk) (by kernel_rfl) (laid_met os _)
set_option maxRecDepth 1000000 in
theorem contract (W : World) (base : Nat) (args : Array Value) {H : Type} (enc : TypeId × Value → H) (ds : List (DataW H)) (ps : List MemPlace)
    (hval : ∀ (j : Nat) t v, Tryd.f7.params[j]? = some t → args[j]? = some v → Value.okWide Tryd.prog W .any base t v)
    (hA : DataW.TrodAll enc Tryd.prog W 0 (fun _ => true) true Tryd.f7.params.toList args.toList ds ps) (hL : laidMetH Tryd.prog Rows.sheetGrowsRow.laid W) :
    Calls Tryd.prog 7 args W fun e W' => e = .returned (.bool true) ∧ Below W.heap.size W W' := by
  rw [Tryd.params7] at hA hval
  obtain ⟨v0, vs0, d0, ds0, p0, q0, hargs, rfl, rfl, h0, r0⟩ := trodAll_cons hA
  obtain ⟨v1, vs1, d1, ds1, p1, q1, rfl, rfl, rfl, h1, r1⟩ := trodAll_cons r0
  obtain ⟨v2, vs2, d2, ds2, p2, q2, rfl, rfl, rfl, h2, r2⟩ := trodAll_cons r1
  obtain ⟨rfl, rfl, rfl⟩ := trodAll_nil r2
  obtain rfl : args = #[v0, v1, v2] := by cases args; simp_all
  obtain ⟨A0, n0, c0, L0, rfl, R0⟩ := open_picks (hval 0 36 v0 rfl rfl) h0
  obtain ⟨x1, rfl, rfl, rfl, w1⟩ := open_int Tryd.underlying47 (hval 1 47 v1 rfl rfl) h1
  obtain ⟨A2, n2, c2, L2, rfl, l2, R2⟩ := open_u8s (hval 2 48 v2 rfl rfl) h2
  exact grows_walk L0 x1 L2 A0 A2 n0 c0 n2 c2 W R0 R2 l2 (tabs_of hL)
theorem noInit : Tryd.checked.prog.inits.idxOf? 7 = none := by kernel_rfl
theorem lao : laidOutB Tryd.checked.prog = true := by kernel_rfl
theorem pok : ∀ t ∈ Tryd.f7.params.toList, Tryd.checked.prog.readableRec t = true ∧ t < Tryd.checked.prog.types.size := params_ok (by kernel_rfl)
set_option maxRecDepth 1000000 in
theorem c2 (W : World) (base : Nat) (args : Array Value) {H : Type} (enc : TypeId × Value → H) (ds : List (DataW H)) (ps : List MemPlace)
    (hval : ∀ (j : Nat) t v, Tryd.f7.params[j]? = some t → args[j]? = some v → Value.okWide Tryd.checked.prog W .any base t v)
    (hA : DataW.TrodAll enc Tryd.checked.prog W 0 (fun _ => true) true Tryd.f7.params.toList args.toList ds ps) (hL : laidMetH Tryd.checked.prog Rows.sheetGrowsRow.laid W) :
    Calls Tryd.checked.prog 7 args W fun e W' => e = .returned (.bool true) ∧ Below W.heap.size W W' := contract W base args enc ds ps hval hA hL
set_option maxRecDepth 1000000 in
theorem wit (os : Os) {H : Type} (enc : TypeId × Value → H) : ∃ (w : World) (tape : Tape) (i : Input), w.os = os ∧ (w.forCall tape i).Shaped Tryd.checked.prog ∧ i.vars = [] ∧ Input.okWide Tryd.checked.prog (w.forCall tape i) .any w.heap.size 7 i ∧
      (OpenSpec.ofChange Rows.sheetGrowsSpec).preRow enc Tryd.checked.prog Tryd.f7 [] false Rows.sheetGrowsRow.laid (w.forCall tape i).memory i.args ∧ ({} : Assume).holds Tryd.checked.prog (lone (Frame.enter Tryd.checked.prog 7 i.args .normal) [] (w.forCall tape i)) :=
  witness_row_atRef (enc := enc) (C := Tryd.checked) false (laidWorld os) #[.slice none 0 0, .int .u16 0, .slice none 0 0] rfl (by kernel_rfl) (by kernel_rfl) (by kernel_rfl) (witness_row os enc)
set_option maxRecDepth 1000000 in
theorem lifted (os : Os) (started : os.Started) {H : Type} (enc : TypeId × Value → H) (F : Stop.Interp) :
    ReturnsInHanded {} Tryd.checked os 7 .any ((OpenSpec.ofChange Rows.sheetGrowsSpec).preRow enc Tryd.checked.prog Tryd.f7 [] false Rows.sheetGrowsRow.laid) (((OpenSpec.ofChange Rows.sheetGrowsSpec).at F).post enc Tryd.checked.prog Tryd.f7 false true false false) :=
  law_lifted (C := Tryd.checked) (tb := 4) own started noInit Tryd.func7 (wit os enc) lao pok rfl rfl Tryd.underlying4 (fun ds h => match ds, h with | [_, _, _], _ => rfl) (fun W base args ds ps hval hA _ hL _ => c2 W base args enc ds ps hval hA hL)
theorem named : Tryd.prog.funcNamed "recension/recensionlaw11.SheetGrows" = some 7 := by kernel_rfl
theorem facts : joinedFacts Tryd.pinned.checked.prog 7 Tryd.f7 (OpenSpec.ofChange Rows.sheetGrowsSpec).bare Rows.sheetGrowsRow = true := by kernel_rfl
theorem inst : Tryd.f7.isInstance Tryd.pinned.checked.prog Rows.sheetGrowsRow.origin Rows.sheetGrowsRow.targs := of_decide_eq_true (by kernel_rfl)
theorem wrp : Tryd.f7.isWrapper Tryd.pinned.checked.prog Rows.sheetGrowsRow.wrapper Rows.sheetGrowsRow.mainSum := by unfold Func.isWrapper; first | (rw [if_pos (by decide +kernel)]; kernel_rfl) | (rw [if_neg (by decide +kernel)]; exact ⟨rfl, rfl⟩)
set_option maxRecDepth 1000000 in
theorem said : Rows.SheetGrowsSaid :=
  OpenClaim.holds_of_cond 7 Tryd.f7 rfl rfl rfl rfl rfl rfl rfl ⟨rfl, rfl, rfl, rfl, rfl⟩ rfl rfl rfl rfl rfl named Tryd.func7 facts inst wrp
    (fun os started H enc _ F => by
      rw [OpenClaim.pre_eq_preRow]
      exact lifted os started enc F)
set_option maxRecDepth 1000000 in
theorem plain (f : FuncId) (fn : Func) (hf : Tryd.pinned.checked.prog.funcNamed "recension/recensionlaw11.SheetGrows" = some f) (hfn : Tryd.pinned.checked.prog.funcs[f]? = some fn) :
    false = Tryd.pinned.checked.prog.looks [] ∧ ∀ (j : Nat) t, fn.params[j]? = some t → Tryd.pinned.checked.prog.wantsStandIn t = false := by
  obtain rfl : f = 7 := Option.some.inj ((show Tryd.prog.funcNamed "recension/recensionlaw11.SheetGrows" = some 7 by kernel_rfl).symm.trans hf) |>.symm
  obtain rfl : fn = Tryd.f7 := (Option.some.inj (Tryd.func7.symm.trans hfn)).symm
  refine ⟨by kernel_rfl, fun j t ht => ?_⟩
  rw [Tryd.params7] at ht
  have hm : t ∈ [36, 47, 48] := by have := Array.mem_of_getElem? ht; simpa using this
  simp only [List.mem_cons, List.mem_nil_iff, or_false] at hm
  rcases hm with rfl | rfl | rfl
  all_goals first | exact (show Tryd.prog.wantsStandIn 36 = false by kernel_rfl) | exact (show Tryd.prog.wantsStandIn 47 = false by kernel_rfl) | exact (show Tryd.prog.wantsStandIn 48 = false by kernel_rfl)
theorem card : Rows.SheetGrowsCardSaid :=
  Claim7.holds_tied_plain_at .later [] _ _ _ _ said (fun _ h => by cases h) (by kernel_rfl) (fun _ h => by cases h) sheetGrows_row_tie rfl ⟨rfl, rfl⟩ (by kernel_rfl) rfl plain (by kernel_rfl)
end Go.Proofs.YtphapjbfaomblaaDoor.grows
