/- What LiveDrops rests on: plain. -/
import Derived.Test.YtejafcdlkpmemaaU
namespace Go.Proofs.Ytejafcdlkpmemaa
open Go Go.RowKit Go.Maps Go.Shelf
section
variable {a b : List Dot} {y : Id} {L L2 L3 : List Id} {O O2 : List Stamp}
theorem drops_has (hM : ∀ x, x ∈ L ↔ liveMem a b a.length x) (hO : ∀ s, s ∈ O ↔ ofMem a b y a.length s) : y ∈ L ↔ 0 < O.length := by
  rw [hM, live_mem, List.length_pos_iff_exists_mem]
  constructor
  · rintro ⟨d, h1, h2, h3⟩
    exact ⟨d.b, (hO _).2 ((of_mem _ _ _ _).2 ⟨d, h1, h3, h2, rfl⟩)⟩
  · rintro ⟨s, hs⟩
    obtain ⟨d, h1, h3, h2, _⟩ := (of_mem _ _ _ _).1 ((hO _).1 hs)
    exact ⟨d, h1, h2, h3⟩
def more (b : List Dot) (y : Id) (O : List Stamp) : List Dot := b ++ O.map (fun s => ⟨y, s⟩)
theorem mem_more (d : Dot) : d ∈ more b y O ↔ d ∈ b ∨ d.n = y ∧ d.b ∈ O := by
  unfold more
  rw [List.mem_append, List.mem_map]
  constructor
  · rintro (h | ⟨s, hs, rfl⟩)
    · exact .inl h
    · exact .inr ⟨rfl, hs⟩
  · rintro (h | ⟨h1, h2⟩)
    · exact .inl h
    · exact .inr ⟨d.b, h2, by rw [← h1]⟩
theorem drops_live (hO : ∀ s, s ∈ O ↔ ofMem a b y a.length s) (x : Id) : liveMem a (more b y O) a.length x ↔ liveMem a b a.length x ∧ x ≠ y := by
  rw [live_mem, live_mem]
  constructor
  · rintro ⟨d, h1, h2, rfl⟩
    rw [mem_more] at h2
    have h3 : d ∉ b := fun h => h2 (.inl h)
    exact ⟨⟨d, h1, h3, rfl⟩, fun h => h2 (.inr ⟨h, (hO _).2 ((of_mem _ _ _ _).2 ⟨d, h1, h, h3, rfl⟩)⟩)⟩
  · rintro ⟨⟨d, h1, h2, rfl⟩, h3⟩
    refine ⟨d, h1, fun h => ?_, rfl⟩
    rcases (mem_more d).1 h with h | h
    · exact h2 h
    · exact h3 h.1
theorem drops_want (hS : L.Pairwise Id.Lt) (hM : ∀ x, x ∈ L ↔ liveMem a b a.length x) (hO : ∀ s, s ∈ O ↔ ofMem a b y a.length s) (hS2 : L2.Pairwise Id.Lt) (hM2 : ∀ x, x ∈ L2 ↔ liveMem a (more b y O) a.length x) :
    L2 = L.filter (fun x => !decide (x = y)) := by
  refine sorted_unique idSTO hS2 (hS.filter _) (fun x => ?_)
  rw [hM2, drops_live hO, List.mem_filter, hM]
  simp
def fresh (a : List Dot) (y : Id) : List Dot := a ++ [⟨y, st 99 1⟩]
theorem not_more (ha : ∀ d ∈ a, d.b.R = 2) (hb : ∀ d ∈ b, d.b.R = 2) (hO : ∀ s, s ∈ O ↔ ofMem a b y a.length s) : (⟨y, st 99 1⟩ : Dot) ∉ more b y O := by
  intro h
  rcases (mem_more _).1 h with h | ⟨_, h⟩
  · have := hb _ h
    simp [st] at this
  · obtain ⟨d, h1, _, _, h4⟩ := (of_mem _ _ _ _).1 ((hO _).1 h)
    have := ha _ h1
    have h4 : d.b = st 99 1 := h4
    rw [h4] at this
    simp [st] at this
theorem drops_fresh (ha : ∀ d ∈ a, d.b.R = 2) (hb : ∀ d ∈ b, d.b.R = 2) (hO : ∀ s, s ∈ O ↔ ofMem a b y a.length s) (hM3 : ∀ x, x ∈ L3 ↔ liveMem (fresh a y) (more b y O) (fresh a y).length x) : y ∈ L3 := by
  rw [hM3, live_mem]
  exact ⟨⟨y, st 99 1⟩, by simp [fresh], not_more ha hb hO, rfl⟩
theorem drops_one (ha : ∀ d ∈ a, d.b.R = 2) (hb : ∀ d ∈ b, d.b.R = 2) (hO : ∀ s, s ∈ O ↔ ofMem a b y a.length s) (hS2 : O2.Pairwise Stamp.Lt) (hM3 : ∀ s, s ∈ O2 ↔ ofMem (fresh a y) (more b y O) y (fresh a y).length s) : O2 = [st 99 1] := by
  refine sorted_unique stampSTO hS2 (by simp) (fun s => ?_)
  rw [hM3, of_mem, List.mem_singleton]
  constructor
  · rintro ⟨d, h1, h2, h3, rfl⟩
    rcases List.mem_append.1 h1 with h1 | h1
    · exfalso
      rw [mem_more] at h3
      have h4 : d ∉ b := fun h => h3 (.inl h)
      exact h3 (.inr ⟨h2, (hO _).2 ((of_mem _ _ _ _).2 ⟨d, h1, h2, h4, rfl⟩)⟩)
    · rw [List.mem_singleton] at h1
      rw [h1]
  · rintro rfl
    exact ⟨⟨y, st 99 1⟩, by simp [fresh], rfl, not_more ha hb hO, rfl⟩
end
theorem dots_two (l : List Bit) : ∀ d ∈ (l.take 60).map bitDot, d.b.R = 2 := by
  intro d hd
  obtain ⟨x, _, rfl⟩ := List.mem_map.1 hd
  rfl
end Go.Proofs.Ytejafcdlkpmemaa
