/- Another identifier in all files, and back, leaves the archive as it was, if the other one was nowhere: TopNames holds of the given program for at most 16 things done. -/
import Derived.Test.YtfpafikfjjckeaaGreatDoorCards
import Derived.Test.YtfpafikfjjckeaaGreatDoorTie
import Derived.Test.YtfpafikfjjckeaaGreatDoorZ9
import Derived.Test.YtfpafikfjjckeaaGreatDoorZ30
namespace Go.Proofs.YtfpafikfjjckeaaGreatDoor.names
open Go.ChangeShapes Go.WideShapes Go.ChangeAt Go.RowKit Go.Shelf
open Go.ChangeMaps (open_string shut_string)
theorem witness_row (os : Os) {H : Type} (enc : TypeId × Value → H) :
  (OpenSpec.ofChange Rows.topNamesSpec).preRow enc Tryz.prog Tryz.f3 [] false Rows.topNamesRow.laid ((DN os).forCall (fun _ _ => 0) ⟨#[], #[.slice none 0 0, .int .u8 0, .int .u8 0], []⟩).memory #[.slice none 0 0, .int .u8 0, .int .u8 0] := by
 have hw : (DataW.whole enc Tryz.prog ((DN os).forCall (fun _ _ => 0) ⟨#[], #[.slice none 0 0, .int .u8 0, .int .u8 0], []⟩).memory Tryz.f3.params.toList Rows.topNamesSpec.vars false (#[.slice none 0 0, .int .u8 0, .int .u8 0] : Array Value).toList 8).map (fun x => (x.1, x.2.1)) =
   some ([.nil, .lit (.int .u8 0), .lit (.int .u8 0)], []) := by kernel_rfl
 obtain ⟨⟨x1, x2, x3⟩, hx, hx1⟩ := Option.map_eq_some_iff.1 hw
 simp only [Prod.mk.injEq] at hx1
 obtain ⟨rfl, rfl⟩ := hx1
 exact OpenSpec.preRow_of_cond 8 hx (by kernel_rfl) (fun k hk => by cases hk) (by kernel_rfl) (RK os _)
set_option maxRecDepth 1000000 in
theorem contract (W : World) (base : Nat) (args : Array Value) {H : Type} (enc : TypeId × Value → H) (ds : List (DataW H)) (ps : List MemPlace)
  (hval : ∀ (j : Nat) t v, Tryz.f3.params[j]? = some t → args[j]? = some v → Value.okWide Tryz.prog W .any base t v)
  (hA : DataW.TrodAll enc Tryz.prog W 0 (fun _ => true) true Tryz.f3.params.toList args.toList ds ps) (hL : laidMetH Tryz.prog Rows.topNamesRow.laid W) :
  Calls Tryz.prog 3 args W fun e W' => e = .returned (.bool true) ∧ Below W.heap.size W W' := by
 rw [Tryz.params3] at hA hval
 obtain ⟨v0, vs0, d0, ds0, p0, q0, hargs, rfl, rfl, h0, r0⟩ := trodAll_cons hA
 obtain ⟨v1, vs1, d1, ds1, p1, q1, rfl, rfl, rfl, h1, r1⟩ := trodAll_cons r0
 obtain ⟨v2, vs2, d2, ds2, p2, q2, rfl, rfl, rfl, h2, r2⟩ := trodAll_cons r1
 obtain ⟨rfl, rfl, rfl⟩ := trodAll_nil r2
 obtain rfl : args = #[v0, v1, v2] := by cases args; simp_all
 obtain ⟨A0, n0, c0, L0, rfl, R0⟩ := Q4H (hval 0 22 v0 rfl rfl) h0
 obtain ⟨x1, rfl, rfl, rfl, w1⟩ := open_int Tryz.underlying5 (hval 1 5 v1 rfl rfl) h1
 have b1 := O1 w1
 obtain ⟨a1, ha1⟩ : ∃ a : Nat, x1 = (a : Int) := ⟨x1.toNat, by omega⟩
 rw [ha1] at b1 ⊢
 obtain ⟨x2, rfl, rfl, rfl, w2⟩ := open_int Tryz.underlying5 (hval 2 5 v2 rfl rfl) h2
 have b2 := O1 w2
 obtain ⟨a2, ha2⟩ : ∃ a : Nat, x2 = (a : Int) := ⟨x2.toNat, by omega⟩
 rw [ha2] at b2 ⊢
 exact Q52 L0 A0 n0 c0 a1 a2 (by omega) (by omega) W R0 (RJ hL)
theorem noInit : Tryz.checked.prog.inits.idxOf? 3 = none := by kernel_rfl
theorem lao : laidOutB Tryz.checked.prog = true := by kernel_rfl
theorem pok : ∀ t ∈ Tryz.f3.params.toList, Tryz.checked.prog.readableRec t = true ∧ t < Tryz.checked.prog.types.size := Q4y (by kernel_rfl)
set_option maxRecDepth 1000000 in
theorem c2 (W : World) (base : Nat) (args : Array Value) {H : Type} (enc : TypeId × Value → H) (ds : List (DataW H)) (ps : List MemPlace)
  (hval : ∀ (j : Nat) t v, Tryz.f3.params[j]? = some t → args[j]? = some v → Value.okWide Tryz.checked.prog W .any base t v)
  (hA : DataW.TrodAll enc Tryz.checked.prog W 0 (fun _ => true) true Tryz.f3.params.toList args.toList ds ps) (hL : laidMetH Tryz.checked.prog Rows.topNamesRow.laid W) :
  Calls Tryz.checked.prog 3 args W fun e W' => e = .returned (.bool true) ∧ Below W.heap.size W W' := contract W base args enc ds ps hval hA hL
set_option maxRecDepth 1000000 in
theorem wit (os : Os) {H : Type} (enc : TypeId × Value → H) : ∃ (w : World) (tape : Tape) (i : Input), w.os = os ∧ (w.forCall tape i).Shaped Tryz.checked.prog ∧ i.vars = [] ∧ Input.okWide Tryz.checked.prog (w.forCall tape i) .any w.heap.size 3 i ∧
   (OpenSpec.ofChange Rows.topNamesSpec).preRow enc Tryz.checked.prog Tryz.f3 [] false Rows.topNamesRow.laid (w.forCall tape i).memory i.args ∧ ({} : Assume).holds Tryz.checked.prog (lone (Frame.enter Tryz.checked.prog 3 i.args .normal) [] (w.forCall tape i)) :=
 witness_row_atRef (enc := enc) (C := Tryz.checked) false (DN os) #[.slice none 0 0, .int .u8 0, .int .u8 0] rfl (by kernel_rfl) (by kernel_rfl) (by kernel_rfl) (witness_row os enc)
set_option maxRecDepth 1000000 in
theorem lifted (os : Os) (started : os.Started) {H : Type} (enc : TypeId × Value → H) (F : Stop.Interp) :
  ReturnsInHanded {} Tryz.checked os 3 .any ((OpenSpec.ofChange Rows.topNamesSpec).preRow enc Tryz.checked.prog Tryz.f3 [] false Rows.topNamesRow.laid) (((OpenSpec.ofChange Rows.topNamesSpec).at F).post enc Tryz.checked.prog Tryz.f3 false true false false) :=
 Q4A (C := Tryz.checked) (tb := 4) own started noInit Tryz.func3 (wit os enc) lao pok rfl rfl Tryz.underlying4 (fun ds h => match ds, h with | [_, _, _], _ => rfl) (fun W base args ds ps hval hA _ hL _ => c2 W base args enc ds ps hval hA hL)
theorem I9 : Tryz.prog.funcNamed "recension/recensiontop.TopNames" = some 3 := by kernel_rfl
theorem facts : joinedFacts Tryz.pinned.checked.prog 3 Tryz.f3 (OpenSpec.ofChange Rows.topNamesSpec).bare Rows.topNamesRow = true := by kernel_rfl
theorem inst : Tryz.f3.isInstance Tryz.pinned.checked.prog Rows.topNamesRow.origin Rows.topNamesRow.targs := of_decide_eq_true (by kernel_rfl)
theorem wrp : Tryz.f3.isWrapper Tryz.pinned.checked.prog Rows.topNamesRow.wrapper Rows.topNamesRow.mainSum := by unfold Func.isWrapper; first | (rw [if_pos (by decide +kernel)]; kernel_rfl) | (rw [if_neg (by decide +kernel)]; exact ⟨rfl, rfl⟩)
set_option maxRecDepth 1000000 in
theorem said : Rows.TopNamesSaid :=
 OpenClaim.holds_of_cond 3 Tryz.f3 rfl rfl rfl rfl rfl rfl rfl ⟨rfl, rfl, rfl, rfl, rfl⟩ rfl rfl rfl rfl rfl I9 Tryz.func3 facts inst wrp
  (fun os started H enc _ F => by
   rw [OpenClaim.pre_eq_preRow]
   exact lifted os started enc F)
set_option maxRecDepth 1000000 in
theorem plain (f : FuncId) (fn : Func) (hf : Tryz.pinned.checked.prog.funcNamed "recension/recensiontop.TopNames" = some f) (hfn : Tryz.pinned.checked.prog.funcs[f]? = some fn) :
  false = Tryz.pinned.checked.prog.looks [] ∧ ∀ (j : Nat) t, fn.params[j]? = some t → Tryz.pinned.checked.prog.wantsStandIn t = false := by
 obtain rfl : f = 3 := Option.some.inj ((show Tryz.prog.funcNamed "recension/recensiontop.TopNames" = some 3 by kernel_rfl).symm.trans hf) |>.symm
 obtain rfl : fn = Tryz.f3 := (Option.some.inj (Tryz.func3.symm.trans hfn)).symm
 refine ⟨by kernel_rfl, fun j t ht => ?_⟩
 rw [Tryz.params3] at ht
 have hm : t ∈ [22, 5, 5] := by have := Array.mem_of_getElem? ht; simpa using this
 simp only [List.mem_cons, List.mem_nil_iff, or_false] at hm
 rcases hm with rfl | rfl | rfl
 all_goals first | exact (show Tryz.prog.wantsStandIn 22 = false by kernel_rfl) | exact (show Tryz.prog.wantsStandIn 5 = false by kernel_rfl)
theorem card : Rows.TopNamesCardSaid :=
 Claim7.holds_tied_plain_at .later [] _ _ _ _ said (fun _ h => by cases h) (by kernel_rfl) (fun _ h => by cases h) topNames_row_tie rfl ⟨rfl, rfl⟩ (by kernel_rfl) rfl plain (by kernel_rfl)
end Go.Proofs.YtfpafikfjjckeaaGreatDoor.names
