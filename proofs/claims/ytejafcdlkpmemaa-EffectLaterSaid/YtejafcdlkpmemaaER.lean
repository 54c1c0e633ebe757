/- A row of stamps of the call's own, turned round by the library. -/
import Derived.Test.YtejafcdlkpmemaaS
namespace Go.Proofs.Ytejafcdlkpmemaa
open Go Go.RowKit Go.Sort Go.Shelf
theorem reverseSt_own (xs : List Stamp) (g c base : Nat) (w : World) (ho : w.ownsRow base 24 2 (.slice (some ⟨g, 0, none⟩) xs.length c) xs.length (xs.flatMap stC)) (hsl : xs.length < 4611686018427387904) :
    Calls Try.prog 57 #[.slice (some ⟨g, 0, none⟩) xs.length c] w fun r w' => r = .returned (.tuple #[]) ∧ w'.ownsRow base 24 2 (.slice (some ⟨g, 0, none⟩) xs.length c) xs.reverse.length (xs.reverse.flatMap stC) ∧ Go.RowKit.Below base w w' ∧ ∀ k, k < w.heap.size → k ≠ g → w'.heap[k]? = w.heap[k]? := by
  rcases ho.2 with ⟨h1, _⟩ | ⟨gb, cap, cur, he, hb, hg, hnc, hm, hs, ht⟩
  · cases h1
  · injection he with e1 _ e3
    injection e1 with e1
    injection e1 with e1
    subst e1; subst e3
    have hgl : g < w.heap.size := (Array.getElem?_eq_some_iff.1 hg).1
    have hH : HoldsK stC 2 w g 0 xs.toArray := by
      unfold HoldsK
      rw [flatK_list stC 2 (fun _ => rfl)]
      intro j hj
      have hj' : j < (xs.flatMap stC).length := by simpa using hj
      have := own_cell ho j _ (List.getElem?_eq_getElem hj')
      rw [Nat.zero_add, getElem!_pos _ j (by simpa using hj')]
      simpa using this
    have hS := AnyQ.slices_Reverse Try.laysSlE035_f57 2 Try.isAgg24 Try.sizeOf24 stC (fun _ => rfl) stC_one g 0 c xs.toArray w hH (by simp; omega)
    rw [List.size_toArray] at hS
    refine hS.mono ?_
    rintro r w' ⟨rfl, n, rfl⟩
    obtain ⟨R, hR⟩ : ∃ R, cur = (xs.flatMap stC ++ R).toArray := ⟨cur.toList.drop (xs.length * 2), by rw [← ht, List.take_append_drop]⟩
    subst hR
    have hF : flatK stC 2 xs.toArray.reverse = (xs.reverse.flatMap stC).toArray := by
      rw [show xs.toArray.reverse = xs.reverse.toArray by simp, flatK_list stC 2 (fun _ => rfl)]
    have hlf : (xs.reverse.flatMap stC).length = (xs.flatMap stC).length := by rw [flatl stC 2 (fun _ => rfl), flatl stC 2 (fun _ => rfl), List.length_reverse]
    have hheap : (putRow id (Sort.ahead w n) g 0 (flatK stC 2 xs.toArray.reverse)).heap[g]? = some (.cells (putCells id 0 (flatK stC 2 xs.toArray.reverse) (xs.flatMap stC ++ R).toArray) 24 (0, 0)) := by
      have := heap_sortK (n := n) (os := #[]) (flatK stC 2 xs.toArray.reverse) hg
      rwa [grow_empty] at this
    have hbel : Go.RowKit.Below base w (putRow id (Sort.ahead w n) g 0 (flatK stC 2 xs.toArray.reverse)) := by
      have := below_sortK (n := n) (os := #[]) (flatK stC 2 xs.toArray.reverse) (Below.refl base w) hb hgl
      rwa [grow_empty] at this
    refine ⟨rfl, ?_, ?_, ?_⟩
    · unfold putRowK
      rw [List.length_reverse]
      refine own_mk (R := R) ?_ hb hnc hm (by rw [hheap, hF, put_list _ _ _ hlf]) ?_
      · rw [flatl stC 2 (fun _ => rfl), List.length_reverse]
      · rw [List.length_append, hlf, ← List.length_append]; simpa using hs
    · unfold putRowK
      exact hbel
    · intro k _ hk
      simp [putRowK, putRow, mapBlock, Sort.ahead, Array.getElem?_modify, Ne.symm hk]
end Go.Proofs.Ytejafcdlkpmemaa
