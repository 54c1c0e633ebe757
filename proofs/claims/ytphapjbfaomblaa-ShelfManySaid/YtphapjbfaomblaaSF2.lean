/- The end of the shelf's Show. -/
import Derived.Test.YtphapjbfaomblaaSN
namespace Go.Proofs.Ytphapjbfaomblaa
open Go Go.RowKit Go.Maps
theorem show_fin {w w6 : World} {F : Nat → Prop} {sb mp : Nat} {vb : Value} {pre post : List Bl} {ad g cap : Nat} {vi : Value} {n n' : Int} {R R0 : Row Id} {D : DataW (Option Nat)} {t t' : Int} {x : Id} {q : Bool}
    (hT : Tidy (pre ++ ⟨ad, vi, .slice (some ⟨g, 0, none⟩) R.length cap, n, R⟩ :: post) D t R0) (hF : ∀ k, foot sb mp vb (pre ++ ⟨ad, vi, .slice (some ⟨g, 0, none⟩) R.length cap, n, R⟩ :: post) k → F k) (hFl : ∀ k, F k → k < w.heap.size)
    (hBn : (pre ++ (⟨ad, vi, .slice (some ⟨g, 0, none⟩) R.length cap, n, R⟩ : Bl) :: post).length ≤ 2 * R0.length) (hp : x ∉ namesR (rowOf pre)) (hx : x ∈ namesR R)
    (h6 : ShIs w6 sb mp vb (pre ++ ⟨ad, vi, .slice (some ⟨g, 0, none⟩) R.length cap, n', R⟩ :: post) D t') (t6 : Touch F w w6) (hn' : n' = cntR (showR R x q)) (ht' : t' = cntR (showR R0 x q)) :
    ShelfAt (w6.setCell ⟨g, ixR R x, none⟩ (.bool q)) F sb (showR R0 x q) ∧ Touch F w (w6.setCell ⟨g, ixR R x, none⟩ (.bool q)) := by
  have hFg : F g := hF g (.inr (.inr (.inr ⟨_, List.mem_append_right pre (List.mem_cons_self ..), .inr (.inr rfl)⟩)))
  have tt : Touch F w (w6.setCell ⟨g, ixR R x, none⟩ (.bool q)) := t6.setCell (p := ⟨g, ixR R x, none⟩) (fun _ => hFg) _
  refine ⟨⟨mp, vb, pre ++ ⟨ad, vi, .slice (some ⟨g, 0, none⟩) R.length cap, n', showR R x q⟩ :: post, D, t', h6.set hx q, tidy_show hT hp hx rfl rfl hn' ht', fun k hk => hF k ?_, fun k hk => Nat.lt_of_lt_of_le (hFl k hk) tt.size, ?_⟩, tt⟩
  · rcases hk with h | h | h | ⟨c, hc, h⟩
    · exact .inl h
    · exact .inr (.inl h)
    · exact .inr (.inr (.inl h))
    · refine .inr (.inr (.inr ?_))
      rcases List.mem_append.1 hc with hc | hc
      · exact ⟨c, List.mem_append_left _ hc, h⟩
      · rcases List.mem_cons.1 hc with rfl | hc
        · exact ⟨_, List.mem_append_right pre (List.mem_cons_self ..), h⟩
        · exact ⟨c, List.mem_append_right _ (List.mem_cons_of_mem _ hc), h⟩
  · rw [showR_len]
    simpa using hBn
end Go.Proofs.Ytphapjbfaomblaa
