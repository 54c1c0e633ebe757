/- One is shown or hidden in a shelf: the plain part. -/
import Derived.Test.YtphapjbfaomblaaSA
namespace Go.Proofs.Ytphapjbfaomblaa
open Go Go.RowKit Go.Maps
theorem inF_same {pre post : List Bl} {b b' : Bl} (had : b'.ad = b.ad) (hn : namesR b'.R = namesR b.R) : inF (pre ++ b' :: post) = inF (pre ++ b :: post) := by
  funext y
  unfold inF
  rw [List.find?_append, List.find?_append, List.find?_cons, List.find?_cons, hn]
  cases List.find? (fun b => decide (y ∈ namesR b.R)) pre with
  | some c => rfl
  | none =>
    by_cases hy : y ∈ namesR b.R
    · simp [hy, had]
    · simp [hy]
/-- the row, one changed in its block -/
theorem tidy_show {pre post : List Bl} {b b' : Bl} {D : DataW (Option Nat)} {t : Int} {R0 : Row Id} {x : Id} {q : Bool} {t' : Int} (hT : Tidy (pre ++ b :: post) D t R0) (hp : x ∉ namesR (rowOf pre)) (hb : x ∈ namesR b.R)
    (had : b'.ad = b.ad) (hR : b'.R = showR b.R x q) (hn : b'.n = cntR (showR b.R x q)) (ht : t' = cntR (showR R0 x q)) : Tidy (pre ++ b' :: post) D t' (showR R0 x q) := by
  obtain ⟨h1, h2, h3, h4, h5, h6⟩ := hT
  have h0 : R0 = rowOf pre ++ (b.R ++ rowOf post) := by rw [← h1, rowOf_app, rowOf_cons]
  have hx : x ∈ namesR R0 := by rw [h0, names_app, names_app]; exact List.mem_append_right _ (List.mem_append_left _ hb)
  refine ⟨?_, by rw [showR_names q hx]; exact h2, fun c hc => ?_, ht, by rw [showR_len]; exact h5, ?_⟩
  · rw [rowOf_app, rowOf_cons, hR, h0, show_mid q hp hb]
  · rcases List.mem_append.1 hc with hc | hc
    · exact h3 c (List.mem_append_left _ hc)
    · rcases List.mem_cons.1 hc with rfl | hc
      · rw [hn, hR]
      · exact h3 c (List.mem_append_right _ (List.mem_cons_of_mem _ hc))
  · rw [inF_same had (by rw [hR, showR_names q hb])]
    exact h6
end Go.Proofs.Ytphapjbfaomblaa
