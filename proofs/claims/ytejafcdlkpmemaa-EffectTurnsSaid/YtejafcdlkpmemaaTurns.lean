/- EffectTurns: of groups each of which undoes the one ahead, by turns they are on, the last one being on; what each undoes in the end is the first one. Conditions: none beyond the row's own. -/
import Derived.Test.YtejafcdlkpmemaaRows
import Derived.Test.YtejafcdlkpmemaaO2
import Derived.Test.YtejafcdlkpmemaaFC
namespace Go.Proofs.Ytejafcdlkpmemaa.turns
open Go.ChangeShapes Go.WideShapes Go.ChangeAt Go.RowKit Go.Shelf
open Go.ChangeMaps (open_string shut_string)
theorem witness_row (os : Os) {H : Type} (enc : TypeId × Value → H) :
    (OpenSpec.ofChange Rows.effectTurnsSpec).preRow enc Try.prog Try.f11 [] false [] ((plainWorld os).forCall (fun _ _ => 0) ⟨#[], #[.int .u8 0], []⟩).memory #[.int .u8 0] := by
  have hw : (DataW.whole enc Try.prog ((plainWorld os).forCall (fun _ _ => 0) ⟨#[], #[.int .u8 0], []⟩).memory Try.f11.params.toList Rows.effectTurnsSpec.vars false (#[.int .u8 0] : Array Value).toList 8).map (fun x => (x.1, x.2.1)) =
      some ([.lit (.int .u8 0)], []) := by kernel_rfl
  obtain ⟨⟨x1, x2, x3⟩, hx, hx1⟩ := Option.map_eq_some_iff.1 hw
  simp only [Prod.mk.injEq] at hx1
  obtain ⟨rfl, rfl⟩ := hx1
  exact OpenSpec.preRow_of_cond 8 hx (by kernel_rfl) (fun k hk => by cases hk) (by kernel_rfl) ⟨[], rfl, List.nodup_nil, fun b off h => by cases h⟩
set_option maxRecDepth 1000000 in
theorem contract (W : World) (base : Nat) (args : Array Value) {H : Type} (enc : TypeId × Value → H) (ds : List (DataW H)) (ps : List MemPlace)
    (hval : ∀ (j : Nat) t v, Try.f11.params[j]? = some t → args[j]? = some v → Value.okWide Try.prog W .any base t v)
    (hA : DataW.TrodAll enc Try.prog W 0 (fun _ => true) true Try.f11.params.toList args.toList ds ps) :
    Calls Try.prog 11 args W fun e W' => e = .returned (.bool true) ∧ Below W.heap.size W W' := by
  rw [Try.params11] at hA hval
  obtain ⟨v0, vs0, d0, ds0, p0, q0, hargs, rfl, rfl, h0, r0⟩ := trodAll_cons hA
  obtain ⟨rfl, rfl, rfl⟩ := trodAll_nil r0
  obtain rfl : args = #[v0] := by cases args; simp_all
  obtain ⟨x0, rfl, rfl, rfl, w0⟩ := open_int Try.underlying5 (hval 0 5 v0 rfl rfl) h0
  have b0 := u8_bounds w0
  exact effectTurns_walk x0 b0.1 b0.2 W
theorem noInit : Try.checked.prog.inits.idxOf? 11 = none := by kernel_rfl
theorem lao : laidOutB Try.checked.prog = true := by kernel_rfl
theorem pok : ∀ t ∈ Try.f11.params.toList, Try.checked.prog.readableRec t = true ∧ t < Try.checked.prog.types.size := params_ok (by kernel_rfl)
set_option maxRecDepth 1000000 in
theorem c2 (W : World) (base : Nat) (args : Array Value) {H : Type} (enc : TypeId × Value → H) (ds : List (DataW H)) (ps : List MemPlace)
    (hval : ∀ (j : Nat) t v, Try.f11.params[j]? = some t → args[j]? = some v → Value.okWide Try.checked.prog W .any base t v)
    (hA : DataW.TrodAll enc Try.checked.prog W 0 (fun _ => true) true Try.f11.params.toList args.toList ds ps) :
    Calls Try.checked.prog 11 args W fun e W' => e = .returned (.bool true) ∧ Below W.heap.size W W' := contract W base args enc ds ps hval hA
set_option maxRecDepth 1000000 in
theorem wit (os : Os) {H : Type} (enc : TypeId × Value → H) : ∃ (w : World) (tape : Tape) (i : Input), w.os = os ∧ (w.forCall tape i).Shaped Try.checked.prog ∧ i.vars = [] ∧ Input.okWide Try.checked.prog (w.forCall tape i) .any w.heap.size 11 i ∧
      (OpenSpec.ofChange Rows.effectTurnsSpec).preRow enc Try.checked.prog Try.f11 [] false [] (w.forCall tape i).memory i.args ∧ ({} : Assume).holds Try.checked.prog (lone (Frame.enter Try.checked.prog 11 i.args .normal) [] (w.forCall tape i)) :=
  witness_row_atRef (enc := enc) (C := Try.checked) false (plainWorld os) #[.int .u8 0] rfl (by kernel_rfl) (by kernel_rfl) (by kernel_rfl) (witness_row os enc)
set_option maxRecDepth 1000000 in
theorem lifted (os : Os) (started : os.Started) {H : Type} (enc : TypeId × Value → H) (F : Stop.Interp) :
    ReturnsInHanded {} Try.checked os 11 .any ((OpenSpec.ofChange Rows.effectTurnsSpec).preRow enc Try.checked.prog Try.f11 [] false []) (((OpenSpec.ofChange Rows.effectTurnsSpec).at F).post enc Try.checked.prog Try.f11 false true false false) :=
  law_lifted (C := Try.checked) (tb := 4) own started noInit Try.func11 (wit os enc) lao pok rfl rfl Try.underlying4 (fun ds h => match ds, h with | [_], _ => rfl) (fun W base args ds ps hval hA _ _ _ => c2 W base args enc ds ps hval hA)
theorem named : Try.prog.funcNamed "recension/recensionlaw12.EffectTurns" = some 11 := by kernel_rfl
theorem facts : joinedFacts Try.pinned.checked.prog 11 Try.f11 (OpenSpec.ofChange Rows.effectTurnsSpec).bare Rows.effectTurnsRow = true := by kernel_rfl
theorem inst : Try.f11.isInstance Try.pinned.checked.prog Rows.effectTurnsRow.origin Rows.effectTurnsRow.targs := of_decide_eq_true (by kernel_rfl)
theorem wrp : Try.f11.isWrapper Try.pinned.checked.prog Rows.effectTurnsRow.wrapper Rows.effectTurnsRow.mainSum := by unfold Func.isWrapper; first | (rw [if_pos (by decide +kernel)]; kernel_rfl) | (rw [if_neg (by decide +kernel)]; exact ⟨rfl, rfl⟩)
set_option maxRecDepth 1000000 in
theorem said : Rows.EffectTurnsSaid :=
  OpenClaim.holds_of_cond 11 Try.f11 rfl rfl rfl rfl rfl rfl rfl ⟨rfl, rfl, rfl, rfl, rfl⟩ rfl rfl rfl rfl rfl named Try.func11 facts inst wrp
    (fun os started H enc _ F => by
      rw [OpenClaim.pre_eq_preRow]
      exact lifted os started enc F)
end Go.Proofs.Ytejafcdlkpmemaa.turns
