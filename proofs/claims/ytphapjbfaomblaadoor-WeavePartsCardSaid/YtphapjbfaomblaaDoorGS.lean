/- The law WeaveParts, in plain terms: what is seen is a part of the order, in its order. -/
import Derived.Test.YtphapjbfaomblaaDoorGP
namespace Go.Proofs.YtphapjbfaomblaaDoor
open Go Go.RowKit
theorem ord_nodup {F : List El} {O : List Nd} (h : Ord F O) : (ids O).Nodup := by
  refine List.pairwise_iff_getElem.2 fun i j hi hj hij he => ?_
  have hi' : i < O.length := by rw [← ids_len]; exact hi
  have hj' : j < O.length := by rw [← ids_len]; exact hj
  rw [ids_get, ids_get] at he
  have hs := node_unique (counts_names F) ((h.2 _).1 (List.getElem_mem hi')) ((h.2 _).1 (List.getElem_mem hj')) he
  have hlt := List.pairwise_iff_getElem.1 h.1 i j hi' hj' hij
  rw [← hs] at hlt
  have := order_idx idSTO h.1 hi' hi' hlt
  omega
theorem rises_of (L : List El) (hn : (L.map El.id).Nodup) : L.Pairwise (fun a b => ∀ (k k' : Nat) (hk : k < L.length) (hk' : k' < L.length), L[k].id = a.id → L[k'].id = b.id → k < k') := by
  have hinj : ∀ (i j : Nat) (hi : i < L.length) (hj : j < L.length), L[i].id = L[j].id → i = j := fun i j hi hj he => by
    have := (List.getElem_inj (h₀ := by simpa using hi) (h₁ := by simpa using hj) hn).1 (show (L.map El.id)[i]'(by simpa using hi) = (L.map El.id)[j]'(by simpa using hj) by simpa using he)
    exact this
  refine List.pairwise_iff_getElem.2 fun i j hi hj hij k k' hk hk' h1 h2 => ?_
  have e1 := hinj k i hk hi h1
  have e2 := hinj k' j hk' hj h2
  omega
/-- the place of the last one that was looked at -/
def PartIs (L S : List El) (i : Nat) (z : Int) : Prop := (i = 0 ∧ z = -1) ∨ ∃ (k : Nat) (hk : k < L.length) (hi : 0 < i ∧ i ≤ S.length), z = (k : Int) ∧ L[k].id = (S[i - 1]'(by omega)).id
theorem parts_step {L S : List El} (hn : (L.map El.id).Nodup) (hs : S.Sublist L) {i : Nat} (hi : i < S.length) {z r : Int} (hz : PartIs L S i z) (hr : AtIs (L.map El.id) S[i].id r) : z < r ∧ PartIs L S (i + 1) r := by
  rcases hr with ⟨k, hk, rfl, he, _⟩ | ⟨_, hno⟩
  · have hk' : k < L.length := by simpa using hk
    have he' : L[k].id = S[i].id := by simpa using he
    refine ⟨?_, .inr ⟨k, hk', by omega, rfl, by simpa using he'⟩⟩
    rcases hz with ⟨_, rfl⟩ | ⟨k1, hk1, hi1, rfl, he1⟩
    · omega
    · have hp := List.pairwise_iff_getElem.1 ((rises_of L hn).sublist hs) (i - 1) i (by omega) hi (by omega) k1 k hk1 hk' he1 he'
      omega
  · exact absurd (List.mem_map.2 ⟨S[i], hs.subset (List.getElem_mem hi), rfl⟩) hno
theorem seen_sub (on : List Stamp) (gone : List Id) (O : List Nd) : (seenOf on gone O).Sublist (els O) := List.filter_sublist
theorem seen_mem {on : List Stamp} {gone : List Id} {O : List Nd} {e : El} (h : e ∈ seenOf on gone O) : e.id.s ∈ on ∧ e.id ∉ gone := by
  have := (List.mem_filter.1 h).2
  unfold leaves at this
  simpa using this
theorem seen_whole (O : List Nd) : seenOf ((els O).map (fun e => e.id.s)) [] O = els O := by
  refine List.filter_eq_self.2 fun e he => ?_
  have hm : e.id.s ∈ (els O).map (fun e => e.id.s) := List.mem_map.2 ⟨e, he, rfl⟩
  unfold leaves
  simp [hm]
theorem ord_same {F : List El} {O1 O2 : List Nd} (h1 : Ord F O1) (h2 : Ord F O2) : O1 = O2 := order_unique idSTO h1 h2
end Go.Proofs.YtphapjbfaomblaaDoor
