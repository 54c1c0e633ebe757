/- Rows of the call's own: stores of several cells in them; one more element. Plain, over any program. -/
import Derived.Laws.IdiomCopy
import Derived.Laws.OwnMore
import Derived.Laws.Rows
import Derived.Maps.AppendAt
import Derived.Test.YtjlghmjngiegaaaV1
namespace Go.Proofs.Ytjlghmjngiegaaa
open Go Go.RowKit
theorem heap_setCells {g : Nat} {e : TypeId} : ∀ (new old A R : List Value) (w : World), w.heap[g]? = some (.cells (A ++ old ++ R).toArray e (0, 0)) → new.length = old.length → (w.setCells g A.length new).heap[g]? = some (.cells (A ++ new ++ R).toArray e (0, 0))
  | [], old, A, R, w, h, hl => by
    have : old = [] := List.eq_nil_of_length_eq_zero hl.symm
    subst this
    exact h
  | v :: new, [], A, R, w, h, hl => by simp at hl
  | v :: new, u :: old, A, R, w, h, hl => by
    have h1 : (w.setCell ⟨g, A.length, none⟩ v).heap[g]? = some (.cells ((A ++ [v]) ++ old ++ R).toArray e (0, 0)) := by
      simp [World.setCell, Array.getElem?_modify, h]
    have := heap_setCells new old (A ++ [v]) R _ h1 (by simpa using hl)
    rw [World.setCells]
    simpa using this
theorem setCells_other {g : Nat} : ∀ (vs : List Value) (o : Nat) (w : World) (k : Nat), k ≠ g → (w.setCells g o vs).heap[k]? = w.heap[k]?
  | [], _, _, _, _ => rfl
  | v :: vs, o, w, k, h => by
    rw [World.setCells, setCells_other vs (o + 1) _ k h]
    exact Below.heap_setCell _ _ _ _ h
theorem setCells_same {g : Nat} : ∀ (vs : List Value) (o : Nat) (w : World), (w.setCells g o vs).os = w.os ∧ (w.setCells g o vs).tape = w.tape ∧ (w.setCells g o vs).output = w.output ∧ (w.setCells g o vs).heap.size = w.heap.size
  | [], _, _ => ⟨rfl, rfl, rfl, rfl⟩
  | v :: vs, o, w => by
    rw [World.setCells]
    obtain ⟨h1, h2, h3, h4⟩ := setCells_same vs (o + 1) (w.setCell ⟨g, o, none⟩ v)
    exact ⟨h1, h2, h3, by rw [h4]; simp [World.setCell]⟩
theorem setCells_below {B g : Nat} {a w : World} (h : Below B a w) (hg : B ≤ g) (o : Nat) (vs : List Value) : Below B a (w.setCells g o vs) := by
  obtain ⟨h1, h2, h3, h4⟩ := setCells_same (g := g) vs o w
  exact ⟨h1.trans h.os, h2.trans h.tape, h3.trans h.output, by rw [h4]; exact h.size, fun k hk => by rw [setCells_other vs o w k (by omega)]; exact h.block k hk⟩
/-- a row of the call's own that is not nil: its block, whole -/
theorem own_parts {w : World} {base : Nat} {e : TypeId} {K n : Nat} {v : Value} {xs : List Value} (h : w.ownsRow base e K v n xs) (hn : 0 < n) :
    ∃ g cap R, v = .slice (some ⟨g, 0, none⟩) n cap ∧ base ≤ g ∧ g < w.heap.size ∧ n ≤ cap ∧ cap ≤ maxLen ∧ w.heap[g]? = some (.cells (xs ++ R).toArray e (0, 0)) ∧ (xs ++ R).length = cap * K := by
  rcases h.2 with ⟨_, h0⟩ | ⟨g, cap, cur, rfl, hb, hg, hnc, hm, hs, ht⟩
  · omega
  · refine ⟨g, cap, cur.toList.drop (n * K), rfl, hb, (Array.getElem?_eq_some_iff.1 hg).1, hnc, hm, ?_, ?_⟩
    · rw [← ht, List.take_append_drop]; exact hg
    · rw [← ht, List.take_append_drop]; simpa using hs
theorem own_mk {w : World} {base : Nat} {e : TypeId} {K n g cap : Nat} {xs R : List Value} (hl : xs.length = n * K) (hb : base ≤ g) (hn : n ≤ cap) (hm : cap ≤ maxLen) (hg : w.heap[g]? = some (.cells (xs ++ R).toArray e (0, 0))) (hs : (xs ++ R).length = cap * K) :
    w.ownsRow base e K (.slice (some ⟨g, 0, none⟩) n cap) n xs :=
  ⟨hl, .inr ⟨g, cap, _, rfl, hb, hg, hn, hm, by simpa using hs, by simp [← hl]⟩⟩
/-- several cells of such a row are written -/
theorem own_sets {w : World} {base : Nat} {e : TypeId} {K n g cap : Nat} {A old C : List Value} (h : w.ownsRow base e K (.slice (some ⟨g, 0, none⟩) n cap) n (A ++ old ++ C)) (new : List Value) (hl : new.length = old.length) (hn : 0 < n) :
    (w.setCells g A.length new).ownsRow base e K (.slice (some ⟨g, 0, none⟩) n cap) n (A ++ new ++ C) := by
  obtain ⟨g', cap', R, e1, hb, _, hnc, hm, hg, hs⟩ := own_parts h hn
  injection e1 with e1 _ e3
  injection e1 with e1
  injection e1 with e1
  subst e1; subst e3
  have h1 := heap_setCells new old A (C ++ R) w (by simpa using hg) hl
  have hlen : (A ++ new ++ C).length = (A ++ old ++ C).length := by simp [hl]
  refine own_mk (R := R) ?_ hb hnc hm (by simpa using h1) ?_
  · rw [hlen]; exact h.1
  · rw [← hs]; simp [hl]
theorem own_grows {w w' : World} {base : Nat} {e : TypeId} {K n : Nat} {v : Value} {xs : List Value} (h : w.ownsRow base e K v n xs) (hb : Below w.heap.size w w') : w'.ownsRow base e K v n xs :=
  h.kept (row := none) ⟨hb.os, hb.tape, hb.output, hb.size, fun k hk _ => hb.block k hk⟩ (by
    cases hv : v.ownBlock
    · exact .inl rfl
    · exact .inr (by simp))
/-- its cells -/
theorem own_cell {w : World} {base : Nat} {e : TypeId} {K n g cap : Nat} {xs : List Value} (h : w.ownsRow base e K (.slice (some ⟨g, 0, none⟩) n cap) n xs) (j : Nat) (u : Value) (hu : xs[j]? = some u) : w.cell? ⟨g, j, none⟩ = some u ∧ w.frozen? ⟨g, j, none⟩ = false := by
  have hn : 0 < n := by
    rcases Nat.eq_zero_or_pos n with h0 | h0
    · have := h.1
      rw [h0, Nat.zero_mul] at this
      have := List.eq_nil_of_length_eq_zero this
      subst this
      simp at hu
    · exact h0
  obtain ⟨g', cap', R, e1, hb, _, hnc, hm, hg, hs⟩ := own_parts h hn
  injection e1 with e1 _ e3
  injection e1 with e1
  injection e1 with e1
  subst e1
  refine ⟨?_, by simp [World.frozen?, hg]⟩
  rw [cell_of_row w g j _ e (0, 0) hg]
  have : j < xs.length := (List.getElem?_eq_some_iff.1 hu).1
  simpa [List.getElem?_append_left this] using hu
theorem own_frozen {w : World} {base : Nat} {e : TypeId} {K n g cap : Nat} {xs : List Value} (h : w.ownsRow base e K (.slice (some ⟨g, 0, none⟩) n cap) n xs) (hn : 0 < n) (i : Nat) : w.frozen? ⟨g, i, none⟩ = false := by
  obtain ⟨g', cap', R, e1, _, _, _, _, hg, _⟩ := own_parts h hn
  injection e1 with e1 _ e3
  injection e1 with e1
  injection e1 with e1
  subst e1
  simp [World.frozen?, hg]
theorem cells_new (w : World) (xs : List Value) (t : TypeId) : ∀ j u, xs[j]? = some u → (w.alloc (.cells xs.toArray t)).cell? ((⟨w.heap.size, 0, none⟩ : Addr).add j) = some u := by
  intro j u hu
  rw [Go.WideShapes.add_plain, Nat.zero_add, cell_of_row _ _ _ _ _ _ (heap_alloc_new w _), ← hu]
  simp
/-- .. one element more: the row is a row of elements -/
theorem own_snoc {α : Type} {enc : α → List Value} {w : World} {base : Nat} {e : TypeId} {K : Nat} {v : Value} {L : List α} {x : α} (h : w.ownsRow base e K v (L.length + 1) (L.flatMap enc ++ enc x)) :
    ∃ g cap, v = .slice (some ⟨g, 0, none⟩) (L.length + 1) cap ∧ base ≤ g ∧ L.length + 1 ≤ cap ∧ cap ≤ maxLen ∧ w.ownsRow base e K (.slice (some ⟨g, 0, none⟩) (L.length + 1) cap) (L.length + 1) ((L ++ [x]).flatMap enc) := by
  obtain ⟨g, cap, R, rfl, hb, _, hn, hm, _, _⟩ := own_parts h (Nat.succ_pos _)
  exact ⟨g, cap, rfl, hb, hn, hm, by simpa using h⟩
theorem flatl {α : Type} (enc : α → List Value) (k : Nat) (hk : ∀ x, (enc x).length = k) : ∀ L : List α, (L.flatMap enc).length = L.length * k
  | [] => by simp
  | a :: L => by rw [List.flatMap_cons, List.length_append, flatl enc k hk L, hk, List.length_cons, Nat.add_mul]; omega
theorem flat_mid {α : Type} (enc : α → List Value) (k : Nat) (hk : ∀ x, (enc x).length = k) (P S : List α) (y : α) (r : Nat) (u : Value) (hu : (enc y)[r]? = some u) : ((P ++ y :: S).flatMap enc)[P.length * k + r]? = some u := by
  have hr : r < k := by rw [← hk y]; exact (List.getElem?_eq_some_iff.1 hu).1
  rw [List.flatMap_append, List.getElem?_append_right (by rw [flatl enc k hk]; omega), flatl enc k hk, List.flatMap_cons, Nat.add_sub_cancel_left, List.getElem?_append_left (by rw [hk]; exact hr)]
  exact hu
/-- two neighbours in a row change places -/
theorem own_swap {α : Type} {enc : α → List Value} {k : Nat} (hk : ∀ x, (enc x).length = k) {w : World} {base : Nat} {e : TypeId} {n g cap : Nat} {P S : List α} {y x : α}
    (h : w.ownsRow base e k (.slice (some ⟨g, 0, none⟩) n cap) n ((P ++ y :: x :: S).flatMap enc)) (hn : 0 < n) :
    ((w.setCells g (P.length * k + k) (enc y)).setCells g (P.length * k) (enc x)).ownsRow base e k (.slice (some ⟨g, 0, none⟩) n cap) n ((P ++ x :: y :: S).flatMap enc) := by
  have h1 : w.ownsRow base e k (.slice (some ⟨g, 0, none⟩) n cap) n ((P.flatMap enc ++ enc y) ++ enc x ++ S.flatMap enc) := by simpa using h
  have h2 := own_sets h1 (enc y) (by rw [hk, hk]) hn
  have h3 : (w.setCells g (P.flatMap enc ++ enc y).length (enc y)).ownsRow base e k (.slice (some ⟨g, 0, none⟩) n cap) n (P.flatMap enc ++ enc y ++ (enc y ++ S.flatMap enc)) := by simpa using h2
  have h4 := own_sets h3 (enc x) (by rw [hk, hk]) hn
  rw [List.length_append, flatl enc k hk, hk] at h4
  simpa using h4
end Go.Proofs.Ytjlghmjngiegaaa
