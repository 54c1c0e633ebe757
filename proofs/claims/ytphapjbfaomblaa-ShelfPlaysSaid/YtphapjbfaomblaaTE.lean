/- An argument of acts: opened. -/
import Derived.Test.YtphapjbfaomblaaTC
import Derived.Test.YtphapjbfaomblaaSL
namespace Go.Proofs.Ytphapjbfaomblaa
open Go Go.RowKit Go.ChangeShapes Go.WideShapes
theorem co49 : Try.prog.cellsOf 49 = 6 := by kernel_rfl
theorem co4 : Try.prog.cellsOf 4 = 1 := by kernel_rfl
theorem len6 {α : Type} : ∀ {l : List α}, l.length = 6 → ∃ a b c d e f, l = [a, b, c, d, e, f]
  | [a, b, c, d, e, f], _ => ⟨a, b, c, d, e, f, rfl⟩
section
variable {H : Type} {enc : TypeId × Value → H} {W : World} {base : Nat} {sp : Nat → Bool} {held : Bool}
theorem trod3 {n : Nat} {cs : List Value} {y : DataW H × List MemPlace} (h : DataW.trod enc Try.prog W base sp held n 3 cs = some y) : ∃ a, cs = [.int .i64 a] ∧ I64 a := by
  cases n with
  | zero => simp [DataW.trod] at h
  | succ n =>
    rw [DataW.trod_step] at h
    unfold DataW.trodStep at h
    simp only [Try.underlying3] at h
    match cs, h with
    | [.int q a], h =>
      simp at h
      obtain ⟨⟨rfl, hw⟩, _⟩ := h
      exact ⟨a, rfl, (wf64 _).1 hw⟩
theorem trod4 {n : Nat} {cs : List Value} {y : DataW H × List MemPlace} (h : DataW.trod enc Try.prog W base sp held n 4 cs = some y) : ∃ a, cs = [.bool a] := by
  cases n with
  | zero => simp [DataW.trod] at h
  | succ n =>
    rw [DataW.trod_step] at h
    unfold DataW.trodStep at h
    simp only [Try.underlying4] at h
    match cs, h with
    | [.bool a], h => exact ⟨a, rfl⟩
theorem trod31 {n : Nat} {cs : List Value} {y : DataW H × List MemPlace} (h : DataW.trod enc Try.prog W base sp held n 31 cs = some y) : ∃ s : Stamp, cs = stC s := by
  cases n with
  | zero => simp [DataW.trod] at h
  | succ n =>
    rw [DataW.trod_step] at h
    unfold DataW.trodStep at h
    simp only [Try.underlying31] at h
    split at h
    · rename_i hl
      rw [co24] at hl
      obtain ⟨c0, c1, rfl⟩ := len2 hl
      simp [co3, Option.bind_eq_some_iff] at h
      obtain ⟨_, _, h0, _, ⟨_, _, h1, _⟩, _⟩ := h
      obtain ⟨a, ha, wa⟩ := trod3 h0
      obtain ⟨b, hb, wb⟩ := trod3 h1
      cases ha; cases hb
      exact ⟨⟨a, b, wa, wb⟩, rfl⟩
    · cases h
theorem trod33 {n : Nat} {cs : List Value} {y : DataW H × List MemPlace} (h : DataW.trod enc Try.prog W base sp held n 33 cs = some y) : ∃ x : Id, cs = idC x := by
  cases n with
  | zero => simp [DataW.trod] at h
  | succ n =>
    rw [DataW.trod_step] at h
    unfold DataW.trodStep at h
    simp only [Try.underlying33] at h
    split at h
    · rename_i hl
      rw [co26] at hl
      obtain ⟨c0, c1, c2, rfl⟩ := len3 hl
      simp [co3, co24, Option.bind_eq_some_iff] at h
      obtain ⟨_, _, h0, _, ⟨_, _, h1, _⟩, _⟩ := h
      obtain ⟨s, hs⟩ := trod31 h0
      obtain ⟨b, hb, wb⟩ := trod3 h1
      cases hs; cases hb
      exact ⟨⟨s, b, wb⟩, rfl⟩
    · cases h
theorem trod49 {n : Nat} {cs : List Value} {y : DataW H × List MemPlace} (h : DataW.trod enc Try.prog W base sp held n 49 cs = some y) : ∃ a : Ac, cs = acC a := by
  cases n with
  | zero => simp [DataW.trod] at h
  | succ n =>
    rw [DataW.trod_step] at h
    unfold DataW.trodStep at h
    simp only [Try.underlying49] at h
    split at h
    · rename_i hl
      rw [co49] at hl
      obtain ⟨c0, c1, c2, c3, c4, c5, rfl⟩ := len6 hl
      simp [co3, co26, co4, Option.bind_eq_some_iff] at h
      obtain ⟨_, _, h0, _, ⟨_, _, h1, _, ⟨_, _, h2, _, ⟨_, _, h3, _⟩, _⟩, _⟩, _⟩ := h
      obtain ⟨a, ha, _⟩ := trod3 h0
      obtain ⟨b, hb, _⟩ := trod3 h1
      obtain ⟨x, hx⟩ := trod33 h2
      obtain ⟨q, hq⟩ := trod4 h3
      cases ha; cases hb; cases hx; cases hq
      exact ⟨⟨a, b, x, q⟩, rfl⟩
    · cases h
set_option maxRecDepth 1000000 in
theorem open_acts {v : Value} {d : DataW H} {ps : List MemPlace} (hval : Value.okWide Try.prog W .any base 42 v) (h : DataW.Trod enc Try.prog W 0 (fun _ => true) true 42 v d ps) :
    ∃ (A : Option Addr) (n c : Nat) (L : List Ac), L.length = n ∧ v = .slice A n c ∧ Rd W W.heap.size 6 (.slice A n c) n (L.flatMap acC) := by
  obtain ⟨A, n, c, m, E, D, Pl, rfl, hR, _, _, hE⟩ := open_rd (k := 6) Try.underlying42 co49 (by decide) hval h
  obtain ⟨L, hl, _, hL⟩ := list_of (f := acC) (p := fun _ => True) n E (fun i hi => (trod49 (hE i hi).2).imp fun _ h => ⟨trivial, h⟩)
  exact ⟨A, n, c, L, hl, rfl, hL ▸ hR⟩
end
end Go.Proofs.Ytphapjbfaomblaa
