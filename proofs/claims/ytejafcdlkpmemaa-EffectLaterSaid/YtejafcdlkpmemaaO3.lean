/- Arguments that are rows of bytes: opened. -/
import Derived.Test.YtejafcdlkpmemaaO2
import Derived.Test.YtejafcdlkpmemaaFB
namespace Go.Proofs.Ytejafcdlkpmemaa
open Go Go.RowKit Go.ChangeShapes Go.WideShapes
section
variable {H : Type} {enc : TypeId × Value → H} {W : World} {base : Nat} {sp : Nat → Bool} {held : Bool}
set_option maxRecDepth 1000000 in
theorem open_u8s {v : Value} {d : DataW H} {ps : List MemPlace} (hval : Value.okWide Try.prog W .any base 51 v) (h : DataW.Trod enc Try.prog W 0 (fun _ => true) true 51 v d ps) :
    ∃ (A : Option Addr) (n c : Nat) (L : List Nat), v = .slice A n c ∧ (∀ x ∈ L, x < 256) ∧ Rd W W.heap.size 1 (.slice A n c) n (L.flatMap bC) := by
  obtain ⟨A, n, c, m, E, D, Pl, rfl, hR, _, _, hE⟩ := open_rd (k := 1) Try.underlying51 co5 (by decide) hval h
  obtain ⟨L, _, hL⟩ := list_of (f := fun x : Fin 256 => bC x.val) n E (fun i hi => by
    obtain ⟨a, ha, e⟩ := trod5 (hE i hi).2
    exact ⟨⟨a, ha⟩, e⟩)
  refine ⟨A, n, c, L.map Fin.val, rfl, fun x hx => ?_, ?_⟩
  · obtain ⟨y, _, rfl⟩ := List.mem_map.1 hx
    exact y.isLt
  · rw [List.flatMap_map]
    exact hL ▸ hR
end
end Go.Proofs.Ytejafcdlkpmemaa
