/- An argument of 16-bit numbers: opened. -/
import Derived.Test.YtphapjbfaomblaaSK
import Derived.Test.YtphapjbfaomblaaK
namespace Go.Proofs.Ytphapjbfaomblaa
open Go Go.RowKit Go.ChangeShapes Go.WideShapes
theorem own : ownKnob Try.prog.godebug = none := by kernel_rfl
noncomputable def plainWorld (os : Os) : World := World.holding Try.prog os ⟨#[], #[], []⟩
theorem u16_bounds {x : Int} (h : (Lit.int .u16 x).wf = true) : 0 ≤ x ∧ x ≤ 65535 := by
  have h1 : IntKind.u16.min = 0 := rfl
  have h2 : IntKind.u16.max = 65535 := rfl
  unfold Lit.wf at h
  simp [h1, h2] at h
  omega
theorem co29 : Try.prog.cellsOf 29 = 1 := by kernel_rfl
theorem list_of {α : Type} {f : α → List Value} {p : α → Prop} : ∀ (n : Nat) (E : Nat → List Value), (∀ i, i < n → ∃ x, p x ∧ E i = f x) → ∃ L : List α, L.length = n ∧ (∀ x ∈ L, p x) ∧ (List.range n).flatMap E = L.flatMap f
  | 0, _, _ => ⟨[], rfl, fun x h => (by cases h), by simp⟩
  | n + 1, E, h => by
    obtain ⟨L, hl, hp, hL⟩ := list_of n E (fun i hi => h i (by omega))
    obtain ⟨x, hpx, hx⟩ := h n (by omega)
    refine ⟨L ++ [x], by simp [hl], fun y hy => ?_, by rw [List.range_succ, List.flatMap_append, List.flatMap_append, hL]; simp [hx]⟩
    rcases List.mem_append.1 hy with hy | hy
    · exact hp y hy
    · rw [List.mem_singleton.1 hy]; exact hpx
section
variable {H : Type} {enc : TypeId × Value → H} {W : World} {base : Nat} {sp : Nat → Bool} {held : Bool}
theorem trod29 {n : Nat} {cs : List Value} {y : DataW H × List MemPlace} (h : DataW.trod enc Try.prog W base sp held n 29 cs = some y) : ∃ a : Nat, a < 65536 ∧ cs = uC a := by
  cases n with
  | zero => simp [DataW.trod] at h
  | succ n =>
    rw [DataW.trod_step] at h
    unfold DataW.trodStep at h
    simp only [Try.underlying29] at h
    match cs, h with
    | [.int q a], h =>
      simp at h
      obtain ⟨⟨rfl, hw⟩, _⟩ := h
      have hb := u16_bounds hw
      exact ⟨a.toNat, by omega, by unfold uC; congr 2; omega⟩
set_option maxRecDepth 1000000 in
theorem open_u16s {v : Value} {d : DataW H} {ps : List MemPlace} (hval : Value.okWide Try.prog W .any base 22 v) (h : DataW.Trod enc Try.prog W 0 (fun _ => true) true 22 v d ps) :
    ∃ (A : Option Addr) (n c : Nat) (L : List Nat), L.length = n ∧ (∀ x ∈ L, x < 65536) ∧ v = .slice A n c ∧ Rd W W.heap.size 1 (.slice A n c) n (L.flatMap uC) := by
  obtain ⟨A, n, c, m, E, D, Pl, rfl, hR, _, _, hE⟩ := open_rd (k := 1) Try.underlying22 co29 (by decide) hval h
  obtain ⟨L, hl, hp, hL⟩ := list_of (f := uC) (p := fun x => x < 65536) n E (fun i hi => trod29 (hE i hi).2)
  exact ⟨A, n, c, L, hl, hp, rfl, hL ▸ hR⟩
end
end Go.Proofs.Ytphapjbfaomblaa
