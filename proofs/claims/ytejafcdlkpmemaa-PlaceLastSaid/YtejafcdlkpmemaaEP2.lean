/- Counting names ahead. Plain. -/
import Derived.Test.YtejafcdlkpmemaaEP
namespace Go.Proofs.Ytejafcdlkpmemaa
def zipH (a b : List Stamp) : List Head := List.zipWith Head.mk a b
theorem zipH_len (a b : List Stamp) : (zipH a b).length = min a.length b.length := by simp [zipH]
def times (s : Stamp) (l : List Stamp) : Nat := (l.filter fun x => decide (x = s)).length
theorem times_succ {a : List Stamp} {k : Nat} (h : k < a.length) (s : Stamp) : times s (a.take (k + 1)) = times s (a.take k) + if a[k] = s then 1 else 0 := by
  unfold times
  rw [List.take_succ_eq_append_getElem h, List.filter_append, List.length_append]
  by_cases e : a[k] = s <;> simp [e]
theorem zip_nm {a b : List Stamp} {k : Nat} (h : k ≤ min a.length b.length) : ((zipH a b).take k).map Head.nm = a.take k := by
  apply List.ext_getElem
  · simp [zipH]; omega
  · intro i h1 h2
    simp [zipH]
theorem zip_succ {a b : List Stamp} {k : Nat} (h1 : k < a.length) (h2 : k < b.length) : (zipH a b).take (k + 1) = (zipH a b).take k ++ [⟨a[k], b[k]⟩] := by
  have h : k < (zipH a b).length := by rw [zipH_len]; omega
  rw [List.take_succ_eq_append_getElem h]
  simp [zipH]
theorem times_zero {a b : List Stamp} {k : Nat} (h : k ≤ min a.length b.length) (s : Stamp) : times s (a.take k) = 0 ↔ ∀ g ∈ (zipH a b).take k, g.nm ≠ s := by
  unfold times
  rw [← zip_nm h, List.length_eq_zero_iff, List.filter_eq_nil_iff]
  constructor
  · intro h1 g hg e
    exact h1 g.nm (List.mem_map.2 ⟨g, hg, rfl⟩) (by simp [e])
  · intro h1 x hx
    obtain ⟨g, hg, rfl⟩ := List.mem_map.1 hx
    simpa using h1 g hg
end Go.Proofs.Ytejafcdlkpmemaa
