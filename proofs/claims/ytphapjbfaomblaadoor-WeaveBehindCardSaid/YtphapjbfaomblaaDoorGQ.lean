/- Arguments that are runs: opened. -/
import Derived.Test.YtphapjbfaomblaaDoorGP
import Derived.Test.YtphapjbfaomblaaDoorK
namespace Go.Proofs.YtphapjbfaomblaaDoor
open Go Go.RowKit Go.ChangeShapes Go.WideShapes
theorem co28 : Tryd.prog.cellsOf 28 = 7 := by kernel_rfl
theorem co9 : Tryd.prog.cellsOf 9 = 1 := by kernel_rfl
theorem len7 {α : Type} : ∀ {l : List α}, l.length = 7 → ∃ a b c d e f g, l = [a, b, c, d, e, f, g]
  | [a, b, c, d, e, f, g], _ => ⟨a, b, c, d, e, f, g, rfl⟩
section
variable {H : Type} {enc : TypeId × Value → H} {W : World} {base : Nat} {sp : Nat → Bool} {held : Bool}
theorem trod3 {n : Nat} {cs : List Value} {y : DataW H × List MemPlace} (h : DataW.trod enc Tryd.prog W base sp held n 3 cs = some y) : ∃ a, cs = [.int .i64 a] ∧ I64 a := by
  cases n with
  | zero => simp [DataW.trod] at h
  | succ n =>
    rw [DataW.trod_step] at h
    unfold DataW.trodStep at h
    simp only [Tryd.underlying3] at h
    match cs, h with
    | [.int q a], h =>
      simp at h
      obtain ⟨⟨rfl, hw⟩, _⟩ := h
      exact ⟨a, rfl, (wf64 _).1 hw⟩
theorem trod24 {n : Nat} {cs : List Value} {y : DataW H × List MemPlace} (h : DataW.trod enc Tryd.prog W base sp held n 24 cs = some y) : ∃ s : Stamp, cs = stC s := by
  cases n with
  | zero => simp [DataW.trod] at h
  | succ n =>
    rw [DataW.trod_step] at h
    unfold DataW.trodStep at h
    simp only [Tryd.underlying24] at h
    split at h
    · rename_i hl
      rw [co24] at hl
      obtain ⟨c0, c1, rfl⟩ := len2 hl
      simp [co3, Option.bind_eq_some_iff] at h
      obtain ⟨_, _, h0, _, ⟨_, _, h1, _⟩, _⟩ := h
      obtain ⟨a, ha, wa⟩ := trod3 h0
      obtain ⟨b, hb, wb⟩ := trod3 h1
      cases ha; cases hb
      exact ⟨⟨a, b, wa, wb⟩, rfl⟩
    · cases h
theorem trod26 {n : Nat} {cs : List Value} {y : DataW H × List MemPlace} (h : DataW.trod enc Tryd.prog W base sp held n 26 cs = some y) : ∃ x : Id, cs = idC x := by
  cases n with
  | zero => simp [DataW.trod] at h
  | succ n =>
    rw [DataW.trod_step] at h
    unfold DataW.trodStep at h
    simp only [Tryd.underlying26] at h
    split at h
    · rename_i hl
      rw [co26] at hl
      obtain ⟨c0, c1, c2, rfl⟩ := len3 hl
      simp [co3, co24, Option.bind_eq_some_iff] at h
      obtain ⟨_, _, h0, _, ⟨_, _, h1, _⟩, _⟩ := h
      obtain ⟨s, hs⟩ := trod24 h0
      obtain ⟨b, hb, wb⟩ := trod3 h1
      cases hs; cases hb
      exact ⟨⟨s, b, wb⟩, rfl⟩
    · cases h
theorem trod9 {n : Nat} {cs : List Value} {y : DataW H × List MemPlace} (h : DataW.trod enc Tryd.prog W base sp held n 9 cs = some y) : ∃ s : ByteArray, cs = [.string s] ∧ s.size ≤ maxLen := by
  obtain ⟨s, h1, _, hs⟩ := DataW.trod_string Tryd.underlying9 h
  exact ⟨s, h1, hs⟩
theorem trod28 {n : Nat} {cs : List Value} {y : DataW H × List MemPlace} (h : DataW.trod enc Tryd.prog W base sp held n 28 cs = some y) : ∃ r : Rn, cs = rnC r ∧ r.tx.size ≤ maxLen := by
  cases n with
  | zero => simp [DataW.trod] at h
  | succ n =>
    rw [DataW.trod_step] at h
    unfold DataW.trodStep at h
    simp only [Tryd.underlying28] at h
    split at h
    · rename_i hl
      rw [co28] at hl
      obtain ⟨c0, c1, c2, c3, c4, c5, c6, rfl⟩ := len7 hl
      simp [co26, co9, Option.bind_eq_some_iff] at h
      obtain ⟨_, _, h0, _, ⟨_, _, h1, _, ⟨_, _, h2, _⟩, _⟩, _⟩ := h
      obtain ⟨x, hx⟩ := trod26 h0
      obtain ⟨y, hy⟩ := trod26 h1
      obtain ⟨s, hs, hsz⟩ := trod9 h2
      cases hx; cases hy; cases hs
      exact ⟨⟨x, y, s⟩, rfl, hsz⟩
    · cases h
/-- cells, element by element, are the cells of a list -/
theorem list_of {α : Type} {f : α → List Value} : ∀ (n : Nat) (E : Nat → List Value), (∀ i, i < n → ∃ x, E i = f x) → ∃ L : List α, L.length = n ∧ (List.range n).flatMap E = L.flatMap f
  | 0, _, _ => ⟨[], rfl, by simp⟩
  | n + 1, E, h => by
    obtain ⟨L, hl, hL⟩ := list_of n E (fun i hi => h i (by omega))
    obtain ⟨x, hx⟩ := h n (by omega)
    exact ⟨L ++ [x], by simp [hl], by rw [List.range_succ, List.flatMap_append, List.flatMap_append, hL]; simp [hx]⟩
set_option maxRecDepth 1000000 in
theorem open_runs {v : Value} {d : DataW H} {ps : List MemPlace} (hval : Value.okWide Tryd.prog W .any base 22 v) (h : DataW.Trod enc Tryd.prog W 0 (fun _ => true) true 22 v d ps) :
    ∃ (A : Option Addr) (n c : Nat) (L : List Rn), v = .slice A n c ∧ Rd W W.heap.size 7 (.slice A n c) n (L.flatMap rnC) := by
  obtain ⟨A, n, c, m, E, D, Pl, rfl, hR, _, _, hE⟩ := open_rd (k := 7) Tryd.underlying22 co28 (by decide) hval h
  obtain ⟨L, _, hL⟩ := list_of (f := rnC) n E (fun i hi => (trod28 (hE i hi).2).imp fun _ h => h.1)
  exact ⟨A, n, c, L, rfl, hL ▸ hR⟩
set_option maxRecDepth 1000000 in
theorem open_run {v : Value} {d : DataW H} {ps : List MemPlace} (hval : Value.okWide Tryd.prog W .any base 28 v) (h : DataW.Trod enc Tryd.prog W 0 sp held 28 v d ps) : ∃ r : Rn, v = rnV r ∧ r.tx.size ≤ 9223372036854775807 := by
  obtain ⟨cs, rfl, hs⟩ := okWide_struct Tryd.underlying28 hval
  obtain ⟨n, hn⟩ := h
  obtain ⟨x, hx, hb⟩ := trod28 hn
  unfold maxLen at hb
  exact ⟨x, congrArg Value.agg (Array.toList_inj.1 hx), by omega⟩
end
end Go.Proofs.YtphapjbfaomblaaDoor
