/- ShelfMany: of many ids put one behind the other at places of any numbers each answer is the document's. Conditions: none beyond the row's own. -/
import Derived.Test.YtphapjbfaomblaaRows
import Derived.Test.YtphapjbfaomblaaSL
import Derived.Test.YtphapjbfaomblaaTD
namespace Go.Proofs.Ytphapjbfaomblaa.many
open Go.ChangeShapes Go.WideShapes Go.ChangeAt Go.RowKit Go.Shelf
open Go.ChangeMaps (open_string shut_string)
theorem witness_row (os : Os) {H : Type} (enc : TypeId × Value → H) :
    (OpenSpec.ofChange Rows.shelfManySpec).preRow enc Try.prog Try.f5 [] false [] ((plainWorld os).forCall (fun _ _ => 0) ⟨#[], #[.slice none 0 0, .slice none 0 0], []⟩).memory #[.slice none 0 0, .slice none 0 0] := by
  have hw : (DataW.whole enc Try.prog ((plainWorld os).forCall (fun _ _ => 0) ⟨#[], #[.slice none 0 0, .slice none 0 0], []⟩).memory Try.f5.params.toList Rows.shelfManySpec.vars false (#[.slice none 0 0, .slice none 0 0] : Array Value).toList 8).map (fun x => (x.1, x.2.1)) =
      some ([.nil, .nil], []) := by kernel_rfl
  obtain ⟨⟨x1, x2, x3⟩, hx, hx1⟩ := Option.map_eq_some_iff.1 hw
  simp only [Prod.mk.injEq] at hx1
  obtain ⟨rfl, rfl⟩ := hx1
  exact OpenSpec.preRow_of_cond 8 hx (by kernel_rfl) (fun k hk => by cases hk) (by kernel_rfl) ⟨[], rfl, List.nodup_nil, fun b off h => by cases h⟩
set_option maxRecDepth 1000000 in
theorem contract (W : World) (base : Nat) (args : Array Value) {H : Type} (enc : TypeId × Value → H) (ds : List (DataW H)) (ps : List MemPlace)
    (hval : ∀ (j : Nat) t v, Try.f5.params[j]? = some t → args[j]? = some v → Value.okWide Try.prog W .any base t v)
    (hA : DataW.TrodAll enc Try.prog W 0 (fun _ => true) true Try.f5.params.toList args.toList ds ps) :
    Calls Try.prog 5 args W fun e W' => e = .returned (.bool true) ∧ Below W.heap.size W W' := by
  rw [Try.params5] at hA hval
  obtain ⟨v0, vs0, d0, ds0, p0, q0, hargs, rfl, rfl, h0, r0⟩ := trodAll_cons hA
  obtain ⟨v1, vs1, d1, ds1, p1, q1, rfl, rfl, rfl, h1, r1⟩ := trodAll_cons r0
  obtain ⟨rfl, rfl, rfl⟩ := trodAll_nil r1
  obtain rfl : args = #[v0, v1] := by cases args; simp_all
  obtain ⟨A0, n0, c0, L0, l0, u0, rfl, R0⟩ := open_u16s (hval 0 22 v0 rfl rfl) h0
  obtain ⟨A1, n1, c1, L1, l1, u1, rfl, R1⟩ := open_u16s (hval 1 22 v1 rfl rfl) h1
  exact many_walk L0 L1 u0 u1 A0 A1 n0 n1 c0 c1 W R0 R1 l0 l1
theorem noInit : Try.checked.prog.inits.idxOf? 5 = none := by kernel_rfl
theorem lao : laidOutB Try.checked.prog = true := by kernel_rfl
theorem pok : ∀ t ∈ Try.f5.params.toList, Try.checked.prog.readableRec t = true ∧ t < Try.checked.prog.types.size := params_ok (by kernel_rfl)
set_option maxRecDepth 1000000 in
theorem c2 (W : World) (base : Nat) (args : Array Value) {H : Type} (enc : TypeId × Value → H) (ds : List (DataW H)) (ps : List MemPlace)
    (hval : ∀ (j : Nat) t v, Try.f5.params[j]? = some t → args[j]? = some v → Value.okWide Try.checked.prog W .any base t v)
    (hA : DataW.TrodAll enc Try.checked.prog W 0 (fun _ => true) true Try.f5.params.toList args.toList ds ps) :
    Calls Try.checked.prog 5 args W fun e W' => e = .returned (.bool true) ∧ Below W.heap.size W W' := contract W base args enc ds ps hval hA
set_option maxRecDepth 1000000 in
theorem wit (os : Os) {H : Type} (enc : TypeId × Value → H) : ∃ (w : World) (tape : Tape) (i : Input), w.os = os ∧ (w.forCall tape i).Shaped Try.checked.prog ∧ i.vars = [] ∧ Input.okWide Try.checked.prog (w.forCall tape i) .any w.heap.size 5 i ∧
      (OpenSpec.ofChange Rows.shelfManySpec).preRow enc Try.checked.prog Try.f5 [] false [] (w.forCall tape i).memory i.args ∧ ({} : Assume).holds Try.checked.prog (lone (Frame.enter Try.checked.prog 5 i.args .normal) [] (w.forCall tape i)) :=
  witness_row_atRef (enc := enc) (C := Try.checked) false (plainWorld os) #[.slice none 0 0, .slice none 0 0] rfl (by kernel_rfl) (by kernel_rfl) (by kernel_rfl) (witness_row os enc)
set_option maxRecDepth 1000000 in
theorem lifted (os : Os) (started : os.Started) {H : Type} (enc : TypeId × Value → H) (F : Stop.Interp) :
    ReturnsInHanded {} Try.checked os 5 .any ((OpenSpec.ofChange Rows.shelfManySpec).preRow enc Try.checked.prog Try.f5 [] false []) (((OpenSpec.ofChange Rows.shelfManySpec).at F).post enc Try.checked.prog Try.f5 false true false false) :=
  law_lifted (C := Try.checked) (tb := 4) own started noInit Try.func5 (wit os enc) lao pok rfl rfl Try.underlying4 (fun ds h => match ds, h with | [_, _], _ => rfl) (fun W base args ds ps hval hA _ _ _ => c2 W base args enc ds ps hval hA)
theorem named : Try.prog.funcNamed "recension/recensionlaw10.ShelfMany" = some 5 := by kernel_rfl
theorem facts : joinedFacts Try.pinned.checked.prog 5 Try.f5 (OpenSpec.ofChange Rows.shelfManySpec).bare Rows.shelfManyRow = true := by kernel_rfl
theorem inst : Try.f5.isInstance Try.pinned.checked.prog Rows.shelfManyRow.origin Rows.shelfManyRow.targs := of_decide_eq_true (by kernel_rfl)
theorem wrp : Try.f5.isWrapper Try.pinned.checked.prog Rows.shelfManyRow.wrapper Rows.shelfManyRow.mainSum := by unfold Func.isWrapper; first | (rw [if_pos (by decide +kernel)]; kernel_rfl) | (rw [if_neg (by decide +kernel)]; exact ⟨rfl, rfl⟩)
set_option maxRecDepth 1000000 in
theorem said : Rows.ShelfManySaid :=
  OpenClaim.holds_of_cond 5 Try.f5 rfl rfl rfl rfl rfl rfl rfl ⟨rfl, rfl, rfl, rfl, rfl⟩ rfl rfl rfl rfl rfl named Try.func5 facts inst wrp
    (fun os started H enc _ F => by
      rw [OpenClaim.pre_eq_preRow]
      exact lifted os started enc F)
end Go.Proofs.Ytphapjbfaomblaa.many
