/- Arguments that are small numbers: opened. -/
import Derived.Test.YtejafcdlkpmemaaO
import Derived.Test.YtejafcdlkpmemaaT
namespace Go.Proofs.Ytejafcdlkpmemaa
open Go Go.RowKit Go.ChangeShapes Go.WideShapes
theorem u8_bounds {x : Int} (h : (Lit.int .u8 x).wf = true) : 0 ≤ x ∧ x ≤ 255 := by
  have h1 : IntKind.u8.min = 0 := rfl
  have h2 : IntKind.u8.max = 255 := rfl
  unfold Lit.wf at h
  simp [h1, h2] at h
  omega
theorem co88 : Try.prog.cellsOf 88 = 2 := by kernel_rfl
theorem co5 : Try.prog.cellsOf 5 = 1 := by kernel_rfl
section
variable {H : Type} {enc : TypeId × Value → H} {W : World} {base : Nat} {sp : Nat → Bool} {held : Bool}
theorem trod5 {n : Nat} {cs : List Value} {y : DataW H × List MemPlace} (h : DataW.trod enc Try.prog W base sp held n 5 cs = some y) : ∃ a : Nat, a < 256 ∧ cs = [.int .u8 a] := by
  cases n with
  | zero => simp [DataW.trod] at h
  | succ n =>
    rw [DataW.trod_step] at h
    unfold DataW.trodStep at h
    simp only [Try.underlying5] at h
    match cs, h with
    | [.int q a], h =>
      simp at h
      obtain ⟨⟨rfl, hw⟩, _⟩ := h
      have hb := u8_bounds hw
      exact ⟨a.toNat, by omega, by congr 2; omega⟩
theorem trod88 {n : Nat} {cs : List Value} {y : DataW H × List MemPlace} (h : DataW.trod enc Try.prog W base sp held n 88 cs = some y) : ∃ x : Bit, cs = bitC x := by
  cases n with
  | zero => simp [DataW.trod] at h
  | succ n =>
    rw [DataW.trod_step] at h
    unfold DataW.trodStep at h
    simp only [Try.underlying88] at h
    split at h
    · rename_i hl
      rw [co88] at hl
      obtain ⟨c0, c1, rfl⟩ := len2 hl
      simp [co5, Option.bind_eq_some_iff] at h
      obtain ⟨_, _, h0, _, ⟨_, _, h1, _⟩, _⟩ := h
      obtain ⟨a, ha, wa⟩ := trod5 h0
      obtain ⟨b, hb, wb⟩ := trod5 h1
      cases wa; cases wb
      exact ⟨⟨a, b, ha, hb⟩, rfl⟩
    · cases h
set_option maxRecDepth 1000000 in
theorem open_bits {v : Value} {d : DataW H} {ps : List MemPlace} (hval : Value.okWide Try.prog W .any base 35 v) (h : DataW.Trod enc Try.prog W 0 (fun _ => true) true 35 v d ps) :
    ∃ (A : Option Addr) (n c : Nat) (L : List Bit), v = .slice A n c ∧ Rd W W.heap.size 2 (.slice A n c) n (L.flatMap bitC) := by
  obtain ⟨A, n, c, m, E, D, Pl, rfl, hR, _, _, hE⟩ := open_rd (k := 2) Try.underlying35 co88 (by decide) hval h
  obtain ⟨L, _, hL⟩ := list_of (f := bitC) n E (fun i hi => trod88 (hE i hi).2)
  exact ⟨A, n, c, L, rfl, hL ▸ hR⟩
end
end Go.Proofs.Ytejafcdlkpmemaa
