/- GaugeNothing: a rate of nothing is no number, or endless, as the part's sign says; bits come back. Conditions: none beyond the row's own. -/
import Derived.Test.YtjlghmjngiegaaaRows
import Derived.Test.YtjlghmjngiegaaaF1
namespace Go.Proofs.Ytjlghmjngiegaaa.nothing
open Go.ChangeShapes Go.WideShapes Go.ChangeAt Go.RowKit Go.Shelf
open Go.ChangeMaps (open_string shut_string)
theorem witness_row (os : Os) {H : Type} (enc : TypeId × Value → H) :
    (OpenSpec.ofChange Rows.gaugeNothingSpec).preRow enc Try.prog Try.f7 [] false [] ((plainWorld os).forCall (fun _ _ => 0) ⟨#[], #[.int .i64 0, .float .f64 0], []⟩).memory #[.int .i64 0, .float .f64 0] := by
  have hw : (DataW.whole enc Try.prog ((plainWorld os).forCall (fun _ _ => 0) ⟨#[], #[.int .i64 0, .float .f64 0], []⟩).memory Try.f7.params.toList Rows.gaugeNothingSpec.vars false (#[.int .i64 0, .float .f64 0] : Array Value).toList 8).map (fun x => (x.1, x.2.1)) =
      some ([.lit (.int .i64 0), .lit (.float .f64 0)], []) := by kernel_rfl
  obtain ⟨⟨x1, x2, x3⟩, hx, hx1⟩ := Option.map_eq_some_iff.1 hw
  simp only [Prod.mk.injEq] at hx1
  obtain ⟨rfl, rfl⟩ := hx1
  exact OpenSpec.preRow_of_cond 8 hx (by kernel_rfl) (fun k hk => by cases hk) (by kernel_rfl) ⟨[], rfl, List.nodup_nil, fun b off h => by cases h⟩
theorem contract (W : World) (base : Nat) (args : Array Value) {H : Type} (enc : TypeId × Value → H) (ds : List (DataW H)) (ps : List MemPlace)
    (hval : ∀ (j : Nat) t v, Try.f7.params[j]? = some t → args[j]? = some v → Value.okWide Try.prog W .any base t v)
    (hA : DataW.TrodAll enc Try.prog W 0 (fun _ => true) true Try.f7.params.toList args.toList ds ps) :
    Calls Try.prog 7 args W fun e W' => e = .returned (.bool true) ∧ Below W.heap.size W W' := by
  rw [Try.params7] at hA hval
  obtain ⟨v0, vs0, d0, ds0, p0, q0, hargs, rfl, rfl, h0, r0⟩ := trodAll_cons hA
  obtain ⟨v1, vs1, d1, ds1, p1, q1, rfl, rfl, rfl, h1, r1⟩ := trodAll_cons r0
  obtain ⟨rfl, rfl, rfl⟩ := trodAll_nil r1
  obtain rfl : args = #[v0, v1] := by cases args; simp_all
  obtain ⟨x0, rfl, rfl, rfl, w0⟩ := open_int Try.underlying3 (hval 0 3 v0 rfl rfl) h0
  have b0 := bounds_i64 w0
  obtain ⟨x1, rfl, rfl, rfl, w1⟩ := open_float Try.underlying24 (hval 1 24 v1 rfl rfl) h1
  have b1 := f64_lt w1
  exact nothing_walk mid_said x0 x1 b0.1 b0.2 b1 W
theorem said : Rows.GaugeNothingSaid :=
  OpenClaim.holds_of_cond 7 Try.f7 rfl rfl rfl rfl rfl rfl rfl ⟨rfl, rfl, rfl, rfl, rfl⟩ rfl rfl rfl rfl rfl (by kernel_rfl) Try.func7 (by kernel_rfl)
    (of_decide_eq_true (by kernel_rfl)) (by unfold Func.isWrapper; first | (rw [if_pos (by decide +kernel)]; kernel_rfl) | (rw [if_neg (by decide +kernel)]; exact ⟨rfl, rfl⟩))
    (fun os started H enc _ F => by
      rw [OpenClaim.pre_eq_preRow]
      refine law_lifted (C := Try.checked) (tb := 4) own started (by kernel_rfl) Try.func7
        (witness_row_atRef (enc := enc) (C := Try.checked) false (plainWorld os) #[.int .i64 0, .float .f64 0] rfl (by kernel_rfl) (by kernel_rfl) (by kernel_rfl) (witness_row os enc))
        (by kernel_rfl) (params_ok (by kernel_rfl)) rfl rfl Try.underlying4 (fun ds h => ?_) (fun W base args ds ps hval hA _ _ _ => contract W base args enc ds ps hval hA)
      match ds, h with
      | [d0, d1], _ => rfl)
end Go.Proofs.Ytjlghmjngiegaaa.nothing
