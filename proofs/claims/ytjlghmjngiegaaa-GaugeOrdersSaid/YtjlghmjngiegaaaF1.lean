/- What all rows of this seat share: floats that came in. -/
import Derived.Test.YtjlghmjngiegaaaChecked
import Derived.Test.YtjlghmjngiegaaaK
import Derived.Test.YtjlghmjngiegaaaW11
namespace Go.Proofs.Ytjlghmjngiegaaa
open Go.ChangeShapes Go.WideShapes Go.ChangeAt Go.RowKit Go.Shelf
theorem own : ownKnob Try.prog.godebug = none := by kernel_rfl
noncomputable def plainWorld (os : Os) : World := World.holding Try.prog os ⟨#[], #[], []⟩
theorem f64_lt {b : Nat} (h : (Lit.float .f64 b).wf = true) : b < 18446744073709551616 := by
  simpa [Lit.wf, FloatKind.has] using h
theorem open_floats {H : Type} {enc : TypeId × Value → H} {W : World} {base : Nat} {v : Value} {d : DataW H} {ps : List MemPlace} (hval : Value.okWide Try.prog W .any base 27 v) (h : DataW.Trod enc Try.prog W 0 (fun _ => true) true 27 v d ps) :
    ∃ (A : Option Addr) (n c : Nat) (zs : List F64), v = .slice A n c ∧ Rd W W.heap.size 1 (.slice A n c) n (zs.map fl) := by
  obtain ⟨A, n, c, m, E, D, Pl, rfl, hr, _, _, hi⟩ := open_rd Try.underlying27 (by kernel_rfl : Try.prog.cellsOf 24 = 1) (by decide) hval h
  have hz : ∀ i, ∃ z : F64, i < n → E i = [fl z] := by
    intro i
    by_cases h : i < n
    · obtain ⟨hl, ht⟩ := hi i h
      obtain ⟨u, hu⟩ : ∃ u, E i = [u] := List.length_eq_one_iff.1 hl
      rw [hu] at ht
      obtain ⟨b, rfl, _, hw⟩ := trod_float Try.underlying24 ht
      exact ⟨⟨b, f64_lt hw⟩, fun _ => hu⟩
    · exact ⟨default, fun h' => absurd h' h⟩
  obtain ⟨z, hz'⟩ := Classical.axiomOfChoice hz
  refine ⟨A, n, c, (List.range n).map z, rfl, ?_⟩
  have e : ∀ l : List Nat, (∀ i ∈ l, i < n) → l.flatMap E = (l.map z).map fl := by
    intro l
    induction l with
    | nil => intro _; rfl
    | cons a l ih =>
      intro h
      rw [List.flatMap_cons, hz' a (h a (by simp)), ih (fun i hi => h i (by simp [hi]))]
      rfl
  rwa [← e _ (fun i hi => List.mem_range.1 hi)]
end Go.Proofs.Ytjlghmjngiegaaa
