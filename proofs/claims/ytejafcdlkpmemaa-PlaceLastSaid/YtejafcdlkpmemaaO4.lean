/- Arguments that are places: opened. -/
import Derived.Test.YtejafcdlkpmemaaO
import Derived.Test.YtejafcdlkpmemaaPA
namespace Go.Proofs.Ytejafcdlkpmemaa
open Go Go.RowKit Go.ChangeShapes Go.WideShapes
theorem co71 : Try.prog.cellsOf 71 = 8 := by kernel_rfl
theorem co9 : Try.prog.cellsOf 9 = 1 := by kernel_rfl
theorem co4 : Try.prog.cellsOf 4 = 1 := by kernel_rfl
theorem len8 {α : Type} : ∀ {l : List α}, l.length = 8 → ∃ a b c d e f g h, l = [a, b, c, d, e, f, g, h]
  | [a, b, c, d, e, f, g, h], _ => ⟨a, b, c, d, e, f, g, h, rfl⟩
section
variable {H : Type} {enc : TypeId × Value → H} {W : World} {base : Nat} {sp : Nat → Bool} {held : Bool}
theorem trod9 {n : Nat} {cs : List Value} {y : DataW H × List MemPlace} (h : DataW.trod enc Try.prog W base sp held n 9 cs = some y) : ∃ s : ByteArray, cs = [.string s] := by
  cases n with
  | zero => simp [DataW.trod] at h
  | succ n =>
    rw [DataW.trod_step] at h
    unfold DataW.trodStep at h
    simp only [Try.underlying9] at h
    match cs, h with
    | [.string s], h => exact ⟨s, rfl⟩
theorem trod4 {n : Nat} {cs : List Value} {y : DataW H × List MemPlace} (h : DataW.trod enc Try.prog W base sp held n 4 cs = some y) : ∃ b : Bool, cs = [.bool b] := by
  cases n with
  | zero => simp [DataW.trod] at h
  | succ n =>
    rw [DataW.trod_step] at h
    unfold DataW.trodStep at h
    simp only [Try.underlying4] at h
    match cs, h with
    | [.bool s], h => exact ⟨s, rfl⟩
theorem trod71 {n : Nat} {cs : List Value} {y : DataW H × List MemPlace} (h : DataW.trod enc Try.prog W base sp held n 71 cs = some y) : ∃ p : Place, cs = plC p := by
  cases n with
  | zero => simp [DataW.trod] at h
  | succ n =>
    rw [DataW.trod_step] at h
    unfold DataW.trodStep at h
    simp only [Try.underlying71] at h
    split at h
    · rename_i hl
      rw [co71] at hl
      obtain ⟨c0, c1, c2, c3, c4, c5, c6, c7, rfl⟩ := len8 hl
      simp [co26, co9, co4, Option.bind_eq_some_iff] at h
      obtain ⟨_, _, h0, _, ⟨_, _, h1, _, ⟨_, _, h2, _, ⟨_, _, h3, _⟩, _⟩, _⟩, _⟩ := h
      obtain ⟨x, hx⟩ := trod26 h0
      obtain ⟨y, hy⟩ := trod26 h1
      obtain ⟨s, hs⟩ := trod9 h2
      obtain ⟨b, hb⟩ := trod4 h3
      cases hx; cases hy; cases hs; cases hb
      exact ⟨⟨x, y, s, b⟩, rfl⟩
    · cases h
set_option maxRecDepth 1000000 in
theorem open_places {v : Value} {d : DataW H} {ps : List MemPlace} (hval : Value.okWide Try.prog W .any base 60 v) (h : DataW.Trod enc Try.prog W 0 (fun _ => true) true 60 v d ps) :
    ∃ (A : Option Addr) (n c : Nat) (L : List Place), v = .slice A n c ∧ Rd W W.heap.size 8 (.slice A n c) n (L.flatMap plC) := by
  obtain ⟨A, n, c, m, E, D, Pl, rfl, hR, _, _, hE⟩ := open_rd (k := 8) Try.underlying60 co71 (by decide) hval h
  obtain ⟨L, _, hL⟩ := list_of (f := plC) n E (fun i hi => trod71 (hE i hi).2)
  exact ⟨A, n, c, L, rfl, hL ▸ hR⟩
set_option maxRecDepth 1000000 in
theorem open_place {v : Value} {d : DataW H} {ps : List MemPlace} (hval : Value.okWide Try.prog W .any base 71 v) (h : DataW.Trod enc Try.prog W 0 sp held 71 v d ps) : ∃ p : Place, v = plV p := by
  obtain ⟨cs, rfl, hs⟩ := okWide_struct Try.underlying71 hval
  obtain ⟨n, hn⟩ := h
  obtain ⟨x, hx⟩ := trod71 hn
  exact ⟨x, congrArg Value.agg (Array.toList_inj.1 hx)⟩
end
end Go.Proofs.Ytejafcdlkpmemaa
