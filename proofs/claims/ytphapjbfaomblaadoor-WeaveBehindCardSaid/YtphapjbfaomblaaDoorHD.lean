/- Arguments that are picks, or bytes: opened. -/
import Derived.Test.YtphapjbfaomblaaDoorGQ
import Derived.Test.YtphapjbfaomblaaDoorGU
namespace Go.Proofs.YtphapjbfaomblaaDoor
open Go Go.RowKit Go.ChangeShapes Go.WideShapes
theorem u8_bounds {x : Int} (h : (Lit.int .u8 x).wf = true) : 0 ≤ x ∧ x ≤ 255 := by
  have h1 : IntKind.u8.min = 0 := rfl
  have h2 : IntKind.u8.max = 255 := rfl
  unfold Lit.wf at h
  simp [h1, h2] at h
  omega
theorem co78 : Tryd.prog.cellsOf 78 = 3 := by kernel_rfl
theorem co5 : Tryd.prog.cellsOf 5 = 1 := by kernel_rfl
section
variable {H : Type} {enc : TypeId × Value → H} {W : World} {base : Nat} {sp : Nat → Bool} {held : Bool}
theorem trod5 {n : Nat} {cs : List Value} {y : DataW H × List MemPlace} (h : DataW.trod enc Tryd.prog W base sp held n 5 cs = some y) : ∃ a : Nat, a < 256 ∧ cs = [.int .u8 a] := by
  cases n with
  | zero => simp [DataW.trod] at h
  | succ n =>
    rw [DataW.trod_step] at h
    unfold DataW.trodStep at h
    simp only [Tryd.underlying5] at h
    match cs, h with
    | [.int q a], h =>
      simp at h
      obtain ⟨⟨rfl, hw⟩, _⟩ := h
      have hb := u8_bounds hw
      exact ⟨a.toNat, by omega, by congr 2; omega⟩
theorem trod78 {n : Nat} {cs : List Value} {y : DataW H × List MemPlace} (h : DataW.trod enc Tryd.prog W base sp held n 78 cs = some y) : ∃ x : Pick, cs = pickC x := by
  cases n with
  | zero => simp [DataW.trod] at h
  | succ n =>
    rw [DataW.trod_step] at h
    unfold DataW.trodStep at h
    simp only [Tryd.underlying78] at h
    split at h
    · rename_i hl
      rw [co78] at hl
      obtain ⟨c0, c1, c2, rfl⟩ := len3 hl
      simp [co5, Option.bind_eq_some_iff] at h
      obtain ⟨_, _, h0, _, ⟨_, _, h1, _, ⟨_, _, h2, _⟩, _⟩, _⟩ := h
      obtain ⟨a, ha, wa⟩ := trod5 h0
      obtain ⟨b, hb, wb⟩ := trod5 h1
      obtain ⟨c, hc, wc⟩ := trod5 h2
      cases wa; cases wb; cases wc
      exact ⟨⟨a, b, c, ha, hb, hc⟩, rfl⟩
    · cases h
set_option maxRecDepth 1000000 in
theorem open_picks {v : Value} {d : DataW H} {ps : List MemPlace} (hval : Value.okWide Tryd.prog W .any base 36 v) (h : DataW.Trod enc Tryd.prog W 0 (fun _ => true) true 36 v d ps) :
    ∃ (A : Option Addr) (n c : Nat) (L : List Pick), v = .slice A n c ∧ Rd W W.heap.size 3 (.slice A n c) n (L.flatMap pickC) := by
  obtain ⟨A, n, c, m, E, D, Pl, rfl, hR, _, _, hE⟩ := open_rd (k := 3) Tryd.underlying36 co78 (by decide) hval h
  obtain ⟨L, _, hL⟩ := list_of (f := pickC) n E (fun i hi => trod78 (hE i hi).2)
  exact ⟨A, n, c, L, rfl, hL ▸ hR⟩
end
end Go.Proofs.YtphapjbfaomblaaDoor
