/- Groups each of which undoes the one ahead: by turns they are on. Plain. -/
import Derived.Test.YtejafcdlkpmemaaEP3
namespace Go.Proofs.Ytejafcdlkpmemaa
def zeroS : Stamp := ⟨0, 0, by decide, by decide⟩
def Chain (l : List Head) : Prop := ∀ i, (h : i < l.length) → l[i].nm.T = (i : Int) + 1 ∧ l[i].nm.R = 2 ∧ l[i].un.T = (i : Int) ∧ l[i].un.R = if i = 0 then 0 else 2
theorem Chain.low {l : List Head} (h : Chain l) : Low l := fun i hi => ⟨(h i hi).1, by rw [(h i hi).2.2.1]; omega⟩
theorem Chain.un {l : List Head} (h : Chain l) {i j : Nat} (hi : i < l.length) (hj : j < l.length) : l[j].un = l[i].nm ↔ j = i + 1 := by
  obtain ⟨a1, a2, a3, a4⟩ := h i hi
  obtain ⟨b1, b2, b3, b4⟩ := h j hj
  constructor
  · intro e
    have : l[j].un.T = l[i].nm.T := by rw [e]
    omega
  · rintro rfl
    exact Stamp.ext' (by omega) (by rw [b4, a2]; simp)
theorem Chain.zero {l : List Head} (h : Chain l) {i : Nat} (hi : i < l.length) : l[i].un = zeroS ↔ i = 0 := by
  obtain ⟨a1, a2, a3, a4⟩ := h i hi
  constructor
  · intro e
    have : l[i].un.T = 0 := by rw [e]; rfl
    omega
  · rintro rfl
    exact Stamp.ext' (by rw [a3]; rfl) (by rw [a4]; rfl)
theorem Chain.on {l : List Head} (h : Chain l) : ∀ (d i : Nat), (hi : i < l.length) → l.length - 1 - i = d → (l[i].nm ∈ onL l ↔ d % 2 = 0)
  | 0, i, hi, e => by
    rw [h.low.on_iff (List.getElem_mem hi)]
    refine ⟨fun _ => rfl, fun _ => ?_⟩
    rintro ⟨g, hg, e1, _⟩
    obtain ⟨j, hj, rfl⟩ := List.getElem_of_mem hg
    have := (h.un hi hj).1 e1
    omega
  | d + 1, i, hi, e => by
    have hi1 : i + 1 < l.length := by omega
    have ih := Chain.on h d (i + 1) hi1 (by omega)
    rw [h.low.on_iff (List.getElem_mem hi)]
    have : (∃ g ∈ l, g.un = l[i].nm ∧ g.nm ∈ onL l) ↔ d % 2 = 0 := by
      rw [← ih]
      constructor
      · rintro ⟨g, hg, e1, e2⟩
        obtain ⟨j, hj, rfl⟩ := List.getElem_of_mem hg
        obtain rfl := (h.un hi hj).1 e1
        exact e2
      · intro e2
        exact ⟨_, List.getElem_mem hi1, (h.un hi hi1).2 rfl, e2⟩
    rw [this]
    omega
theorem Chain.len {l : List Head} (h : Chain l) (h0 : 0 < l.length) : (onL l).length = (l.length + 1) / 2 := by
  have hM : onL l = (List.range ((l.length + 1) / 2)).map (fun j => (l.getD ((l.length - 1) % 2 + 2 * j) ⟨zeroS, zeroS⟩).nm) := by
    have hget : ∀ j, j < (l.length + 1) / 2 → ∃ hj : (l.length - 1) % 2 + 2 * j < l.length, (l.getD ((l.length - 1) % 2 + 2 * j) ⟨zeroS, zeroS⟩).nm = l[(l.length - 1) % 2 + 2 * j].nm := by
      intro j hj
      have : (l.length - 1) % 2 + 2 * j < l.length := by omega
      exact ⟨this, by rw [List.getD_eq_getElem?_getD, List.getElem?_eq_getElem this]; rfl⟩
    refine sorted_unique stampSTO (onL_rises h.low.rises) ?_ (fun s => ?_)
    · rw [List.pairwise_iff_getElem]
      intro i j hi hj hij
      simp only [List.length_map, List.length_range] at hi hj
      simp only [List.getElem_map, List.getElem_range]
      obtain ⟨p1, e1⟩ := hget i hi
      obtain ⟨p2, e2⟩ := hget j hj
      rw [e1, e2]
      refine .inl ?_
      rw [(h _ p1).1, (h _ p2).1]
      omega
    · rw [List.mem_map]
      constructor
      · intro hs
        obtain ⟨g, hg, rfl⟩ := (mem_onL s).1 hs
        obtain ⟨i, hi, rfl⟩ := List.getElem_of_mem (List.mem_reverse.1 (goOn_mem hg))
        have := (h.on (l.length - 1 - i) i hi rfl).1 hs
        refine ⟨(i - (l.length - 1) % 2) / 2, List.mem_range.2 (by omega), ?_⟩
        obtain ⟨p1, e1⟩ := hget ((i - (l.length - 1) % 2) / 2) (by omega)
        rw [e1]
        have : (l.length - 1) % 2 + 2 * ((i - (l.length - 1) % 2) / 2) = i := by omega
        congr 1
        congr 1
      · rintro ⟨j, hj, rfl⟩
        have hj := List.mem_range.1 hj
        obtain ⟨p1, e1⟩ := hget j hj
        rw [e1]
        exact (h.on _ _ p1 rfl).2 (by omega)
  rw [hM]
  simp
theorem Chain.root {l : List Head} (h : Chain l) : ∀ (i n : Nat) (e : Bool), (hi : i < l.length) → i < n → rootGo l zeroS n l[i].nm e = .root (l[0]'(by omega)).nm (if i % 2 = 0 then e else !e)
  | i, 0, _, _, hn => by omega
  | i, n + 1, e, hi, hn => by
    have hf : l.find? (fun g => decide (g.nm = l[i].nm)) = some l[i] := (h.low.unlike.first _).2 (List.getElem_mem hi)
    rw [rootGo, hf]
    simp only
    by_cases h0 : i = 0
    · subst h0
      rw [if_pos ((h.zero hi).2 rfl)]
      simp
    · rw [if_neg (fun e1 => h0 ((h.zero hi).1 e1))]
      obtain ⟨j, rfl⟩ : ∃ j, i = j + 1 := ⟨i - 1, by omega⟩
      have hj : j < l.length := by omega
      rw [(h.un hj hi).2 rfl, Chain.root h j n (!e) hj (by omega)]
      congr 1
      by_cases h2 : j % 2 = 0
      · rw [if_pos h2, if_neg (by omega)]
      · rw [if_neg h2, if_pos (by omega), Bool.not_not]
end Go.Proofs.Ytejafcdlkpmemaa
