/- Arguments that are ids, stamps, lists of dots: opened. -/
import Derived.Test.YtejafcdlkpmemaaK
import Derived.Test.YtejafcdlkpmemaaM
namespace Go.Proofs.Ytejafcdlkpmemaa
open Go Go.RowKit Go.ChangeShapes Go.WideShapes
section
variable {H : Type} {enc : TypeId × Value → H} {W : World} {base : Nat} {sp : Nat → Bool} {held : Bool}
theorem trod3 {n : Nat} {cs : List Value} {y : DataW H × List MemPlace} (h : DataW.trod enc Try.prog W base sp held n 3 cs = some y) : ∃ a, cs = [.int .i64 a] ∧ I64 a := by
  cases n with
  | zero => simp [DataW.trod] at h
  | succ n =>
    rw [DataW.trod_step] at h
    unfold DataW.trodStep at h
    simp only [Try.underlying3] at h
    match cs, h with
    | [.int q a], h =>
      simp at h
      obtain ⟨⟨rfl, hw⟩, _⟩ := h
      exact ⟨a, rfl, (wf64 _).1 hw⟩
theorem trod24 {n : Nat} {cs : List Value} {y : DataW H × List MemPlace} (h : DataW.trod enc Try.prog W base sp held n 24 cs = some y) : ∃ s : Stamp, cs = stC s := by
  cases n with
  | zero => simp [DataW.trod] at h
  | succ n =>
    rw [DataW.trod_step] at h
    unfold DataW.trodStep at h
    simp only [Try.underlying24] at h
    split at h
    · rename_i hl
      rw [co24] at hl
      obtain ⟨c0, c1, rfl⟩ := len2 hl
      simp [co3, Option.bind_eq_some_iff] at h
      obtain ⟨_, _, h0, _, ⟨_, _, h1, _⟩, _⟩ := h
      obtain ⟨a, ha, wa⟩ := trod3 h0
      obtain ⟨b, hb, wb⟩ := trod3 h1
      cases ha; cases hb
      exact ⟨⟨a, b, wa, wb⟩, rfl⟩
    · cases h
theorem trod26 {n : Nat} {cs : List Value} {y : DataW H × List MemPlace} (h : DataW.trod enc Try.prog W base sp held n 26 cs = some y) : ∃ x : Id, cs = idC x := by
  cases n with
  | zero => simp [DataW.trod] at h
  | succ n =>
    rw [DataW.trod_step] at h
    unfold DataW.trodStep at h
    simp only [Try.underlying26] at h
    split at h
    · rename_i hl
      rw [co26] at hl
      obtain ⟨c0, c1, c2, rfl⟩ := len3 hl
      simp [co3, co24, Option.bind_eq_some_iff] at h
      obtain ⟨_, _, h0, _, ⟨_, _, h1, _⟩, _⟩ := h
      obtain ⟨s, hs⟩ := trod24 h0
      obtain ⟨b, hb, wb⟩ := trod3 h1
      cases hs; cases hb
      exact ⟨⟨s, b, wb⟩, rfl⟩
    · cases h
theorem trod41 {n : Nat} {cs : List Value} {y : DataW H × List MemPlace} (h : DataW.trod enc Try.prog W base sp held n 41 cs = some y) : ∃ d : Dot, cs = dotC d := by
  cases n with
  | zero => simp [DataW.trod] at h
  | succ n =>
    rw [DataW.trod_step] at h
    unfold DataW.trodStep at h
    simp only [Try.underlying41] at h
    split at h
    · rename_i hl
      rw [co41] at hl
      obtain ⟨c0, c1, c2, c3, c4, rfl⟩ := len5 hl
      simp [co26, co24, Option.bind_eq_some_iff] at h
      obtain ⟨_, _, h0, _, ⟨_, _, h1, _⟩, _⟩ := h
      obtain ⟨s, hs⟩ := trod26 h0
      obtain ⟨b, hb⟩ := trod24 h1
      cases hs; cases hb
      exact ⟨⟨s, b⟩, rfl⟩
    · cases h
/-- cells, element by element, are the cells of a list -/
theorem list_of {α : Type} {f : α → List Value} : ∀ (n : Nat) (E : Nat → List Value), (∀ i, i < n → ∃ x, E i = f x) → ∃ L : List α, L.length = n ∧ (List.range n).flatMap E = L.flatMap f
  | 0, _, _ => ⟨[], rfl, by simp⟩
  | n + 1, E, h => by
    obtain ⟨L, hl, hL⟩ := list_of n E (fun i hi => h i (by omega))
    obtain ⟨x, hx⟩ := h n (by omega)
    exact ⟨L ++ [x], by simp [hl], by rw [List.range_succ, List.flatMap_append, List.flatMap_append, hL]; simp [hx]⟩
set_option maxRecDepth 1000000 in
theorem open_dots {v : Value} {d : DataW H} {ps : List MemPlace} (hval : Value.okWide Try.prog W .any base 22 v) (h : DataW.Trod enc Try.prog W 0 (fun _ => true) true 22 v d ps) :
    ∃ (A : Option Addr) (n c : Nat) (L : List Dot), v = .slice A n c ∧ Rd W W.heap.size 5 (.slice A n c) n (L.flatMap dotC) := by
  obtain ⟨A, n, c, m, E, D, Pl, rfl, hR, _, _, hE⟩ := open_rd (k := 5) Try.underlying22 co41 (by decide) hval h
  obtain ⟨L, _, hL⟩ := list_of (f := dotC) n E (fun i hi => trod41 (hE i hi).2)
  exact ⟨A, n, c, L, rfl, hL ▸ hR⟩
set_option maxRecDepth 1000000 in
theorem open_stamps {v : Value} {d : DataW H} {ps : List MemPlace} (hval : Value.okWide Try.prog W .any base 32 v) (h : DataW.Trod enc Try.prog W 0 (fun _ => true) true 32 v d ps) :
    ∃ (A : Option Addr) (n c : Nat) (L : List Stamp), v = .slice A n c ∧ Rd W W.heap.size 2 (.slice A n c) n (L.flatMap stC) := by
  obtain ⟨A, n, c, m, E, D, Pl, rfl, hR, _, _, hE⟩ := open_rd (k := 2) Try.underlying32 co24 (by decide) hval h
  obtain ⟨L, _, hL⟩ := list_of (f := stC) n E (fun i hi => trod24 (hE i hi).2)
  exact ⟨A, n, c, L, rfl, hL ▸ hR⟩
set_option maxRecDepth 1000000 in
theorem open_ids {v : Value} {d : DataW H} {ps : List MemPlace} (hval : Value.okWide Try.prog W .any base 29 v) (h : DataW.Trod enc Try.prog W 0 (fun _ => true) true 29 v d ps) :
    ∃ (A : Option Addr) (n c : Nat) (L : List Id), v = .slice A n c ∧ Rd W W.heap.size 3 (.slice A n c) n (L.flatMap idC) := by
  obtain ⟨A, n, c, m, E, D, Pl, rfl, hR, _, _, hE⟩ := open_rd (k := 3) Try.underlying29 co26 (by decide) hval h
  obtain ⟨L, _, hL⟩ := list_of (f := idC) n E (fun i hi => trod26 (hE i hi).2)
  exact ⟨A, n, c, L, rfl, hL ▸ hR⟩
set_option maxRecDepth 1000000 in
theorem open_id {v : Value} {d : DataW H} {ps : List MemPlace} (hval : Value.okWide Try.prog W .any base 26 v) (h : DataW.Trod enc Try.prog W 0 sp held 26 v d ps) : ∃ x : Id, v = idV x := by
  obtain ⟨cs, rfl, hs⟩ := okWide_struct Try.underlying26 hval
  obtain ⟨n, hn⟩ := h
  obtain ⟨x, hx⟩ := trod26 hn
  exact ⟨x, congrArg Value.agg (Array.toList_inj.1 hx)⟩
set_option maxRecDepth 1000000 in
theorem open_stamp {v : Value} {d : DataW H} {ps : List MemPlace} (hval : Value.okWide Try.prog W .any base 24 v) (h : DataW.Trod enc Try.prog W 0 sp held 24 v d ps) : ∃ x : Stamp, v = stV x := by
  obtain ⟨cs, rfl, hs⟩ := okWide_struct Try.underlying24 hval
  obtain ⟨n, hn⟩ := h
  obtain ⟨x, hx⟩ := trod24 hn
  exact ⟨x, congrArg Value.agg (Array.toList_inj.1 hx)⟩
end
end Go.Proofs.Ytejafcdlkpmemaa
