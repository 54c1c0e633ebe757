/- Arguments that are rows of stamps and ids: opened. -/
import Derived.Test.YtphapjbfaomblaaDoorGQ
namespace Go.Proofs.YtphapjbfaomblaaDoor
open Go Go.RowKit Go.ChangeShapes Go.WideShapes
section
variable {H : Type} {enc : TypeId × Value → H} {W : World} {base : Nat} {sp : Nat → Bool} {held : Bool}
set_option maxRecDepth 1000000 in
theorem open_stamps {v : Value} {d : DataW H} {ps : List MemPlace} (hval : Value.okWide Tryd.prog W .any base 42 v) (h : DataW.Trod enc Tryd.prog W 0 (fun _ => true) true 42 v d ps) :
    ∃ (A : Option Addr) (n c : Nat) (L : List Stamp), v = .slice A n c ∧ Rd W W.heap.size 2 (.slice A n c) n (L.flatMap stC) := by
  obtain ⟨A, n, c, m, E, D, Pl, rfl, hR, _, _, hE⟩ := open_rd (k := 2) Tryd.underlying42 co24 (by decide) hval h
  obtain ⟨L, _, hL⟩ := list_of (f := stC) n E (fun i hi => trod24 (hE i hi).2)
  exact ⟨A, n, c, L, rfl, hL ▸ hR⟩
set_option maxRecDepth 1000000 in
theorem open_ids {v : Value} {d : DataW H} {ps : List MemPlace} (hval : Value.okWide Tryd.prog W .any base 31 v) (h : DataW.Trod enc Tryd.prog W 0 (fun _ => true) true 31 v d ps) :
    ∃ (A : Option Addr) (n c : Nat) (L : List Id), v = .slice A n c ∧ Rd W W.heap.size 3 (.slice A n c) n (L.flatMap idC) := by
  obtain ⟨A, n, c, m, E, D, Pl, rfl, hR, _, _, hE⟩ := open_rd (k := 3) Tryd.underlying31 co26 (by decide) hval h
  obtain ⟨L, _, hL⟩ := list_of (f := idC) n E (fun i hi => trod26 (hE i hi).2)
  exact ⟨A, n, c, L, rfl, hL ▸ hR⟩
end
end Go.Proofs.YtphapjbfaomblaaDoor
