/- A place put into a rising row: the row with one changed, the row with one more. Plain. -/
import Derived.Test.YtejafcdlkpmemaaPP1
namespace Go.Proofs.Ytejafcdlkpmemaa
theorem insert_same {L M : List Place} {p : Place} (hL : Rises L) (hM : Rises M) (h : ∀ x, pfind M x = if x = p.nd then some (putDir (pfind L p.nd) p) else pfind L x) : M = insertP p L :=
  rises_same hM (insertP_rises hL) (fun x => (h x).trans (insertP_find hL x).symm)
theorem pfind_mid {P S : List Place} {c : Place} {x : Id} (h : c.nd ≠ x) : pfind (P ++ c :: S) x = pfind (P ++ S) x := by
  unfold pfind
  rw [List.find?_append, List.find?_append, List.find?_cons]
  simp [h]
theorem pfind_here {P S : List Place} {c : Place} (hr : Rises (P ++ c :: S)) : pfind (P ++ c :: S) c.nd = some c := (hr.find c).2 (by simp)
theorem rises_map {L : List Place} : Rises L ↔ (L.map Place.nd).Pairwise Id.Lt := by
  unfold Rises
  rw [List.pairwise_map]
/-- one changed, its directory kept -/
theorem set_same {P S : List Place} {q p : Place} (hL : Rises (P ++ q :: S)) (e : q.nd = p.nd) : P ++ { p with dir := q.dir } :: S = insertP p (P ++ q :: S) := by
  have hM : Rises (P ++ ({ p with dir := q.dir } : Place) :: S) := by
    rw [rises_map] at hL ⊢
    have : (P ++ ({ p with dir := q.dir } : Place) :: S).map Place.nd = (P ++ q :: S).map Place.nd := by simp [e]
    rw [this]
    exact hL
  have hq : pfind (P ++ q :: S) p.nd = some q := by rw [← e]; exact pfind_here hL
  refine insert_same hL hM (fun x => ?_)
  by_cases hx : x = p.nd
  · subst hx
    rw [if_pos rfl, hq]
    exact pfind_here (c := { p with dir := q.dir }) hM
  · rw [if_neg hx, pfind_mid (c := { p with dir := q.dir }) (fun e' => hx e'.symm), pfind_mid (fun e' => hx (e'.symm.trans e))]
theorem risP_put {P S : List Place} {x : Place} (h : Rises (P ++ S)) (hx : ∀ g ∈ P ++ S, g.nd ≠ x.nd) (hS : ∀ y ∈ S, x.nd.Lt y.nd) (hP : ∀ z, P.getLast? = some z → ¬ x.nd.Lt z.nd) : Rises (P ++ x :: S) := by
  rw [rises_map, List.map_append] at h
  rw [rises_map, List.map_append, List.map_cons]
  refine sorted_put idSTO h ?_ ?_ ?_
  · intro hm
    rw [← List.map_append, List.mem_map] at hm
    obtain ⟨g, hg, e⟩ := hm
    exact hx g hg e
  · intro y hy
    obtain ⟨g, hg, rfl⟩ := List.mem_map.1 hy
    exact hS g hg
  · intro z hz
    rw [List.getLast?_map] at hz
    obtain ⟨g, hg, rfl⟩ := Option.map_eq_some_iff.1 hz
    exact hP g hg
/-- one more -/
theorem put_same {P S : List Place} {x : Place} (h : Rises (P ++ S)) (hno : pfind (P ++ S) x.nd = none) (hS : ∀ y ∈ S, x.nd.Lt y.nd) (hP : ∀ z, P.getLast? = some z → ¬ x.nd.Lt z.nd) : P ++ x :: S = insertP x (P ++ S) := by
  have hM := risP_put h (pfind_none.1 hno) hS hP
  refine insert_same h hM (fun y => ?_)
  by_cases hx : y = x.nd
  · subst hx
    rw [if_pos rfl, hno]
    exact pfind_here hM
  · rw [if_neg hx, pfind_mid (fun e' => hx e'.symm)]
/-- a step that changes one, or puts one in -/
theorem pstep_put {L : List Place} {p : Place} (h1 : p.nd ≠ zeroI) (h2 : withinGo L (L.length + 1) p.pa p.nd = false) : pstep L p = insertP p L := by
  unfold pstep
  rw [if_neg (by rintro (h | h); exact h1 h; rw [h2] at h; cases h)]
theorem pstep_stay {L : List Place} {p : Place} (h : p.nd = zeroI ∨ withinGo L (L.length + 1) p.pa p.nd = true) : pstep L p = L := by
  unfold pstep
  rw [if_pos h]
end Go.Proofs.Ytejafcdlkpmemaa
