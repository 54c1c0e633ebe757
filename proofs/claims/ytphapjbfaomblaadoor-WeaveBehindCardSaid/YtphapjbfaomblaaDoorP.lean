/- Lists that rise strictly, one more put where it belongs; the order of stamps and of ids. Plain Lean over the data's types. -/
import Derived.Test.YtphapjbfaomblaaDoorA
namespace Go.Proofs.YtphapjbfaomblaaDoor
structure STO {α : Type} (lt : α → α → Prop) : Prop where
  irrefl : ∀ a, ¬ lt a a
  trans : ∀ a b c, lt a b → lt b c → lt a c
  total : ∀ a b, lt a b ∨ a = b ∨ lt b a
section
variable {α : Type} {lt : α → α → Prop}
theorem STO.asymm (O : STO lt) {a b : α} (h : lt a b) : ¬ lt b a := fun k => O.irrefl a (O.trans a b a h k)
theorem sorted_unique (O : STO lt) : ∀ {L M : List α}, L.Pairwise lt → M.Pairwise lt → (∀ x, x ∈ L ↔ x ∈ M) → L = M
  | [], [], _, _, _ => rfl
  | [], b :: M, _, _, h => by have := (h b).2 (by simp); simp at this
  | a :: L, [], _, _, h => by have := (h a).1 (by simp); simp at this
  | a :: L, b :: M, h1, h2, h => by
    obtain ⟨a1, a2⟩ := List.pairwise_cons.1 h1
    obtain ⟨b1, b2⟩ := List.pairwise_cons.1 h2
    have e : a = b := by
      have ha := (h a).1 (by simp)
      have hb := (h b).2 (by simp)
      rcases List.mem_cons.1 ha with e | ha
      · exact e
      · rcases List.mem_cons.1 hb with e | hb
        · exact e.symm
        · exact absurd (a1 b hb) (O.asymm (b1 a ha))
    subst e
    congr 1
    refine sorted_unique O a2 b2 fun x => ?_
    constructor
    · intro hx
      rcases List.mem_cons.1 ((h x).1 (by simp [hx])) with e | h'
      · subst e; exact absurd (a1 x hx) (O.irrefl x)
      · exact h'
    · intro hx
      rcases List.mem_cons.1 ((h x).2 (by simp [hx])) with e | h'
      · subst e; exact absurd (b1 x hx) (O.irrefl x)
      · exact h'
theorem sorted_put (O : STO lt) {P S : List α} {x : α} (h : (P ++ S).Pairwise lt) (hx : x ∉ P ++ S) (hS : ∀ y ∈ S, lt x y) (hP : ∀ z, P.getLast? = some z → ¬ lt x z) : (P ++ x :: S).Pairwise lt := by
  obtain ⟨h1, h2, h3⟩ := List.pairwise_append.1 h
  refine List.pairwise_append.2 ⟨h1, List.pairwise_cons.2 ⟨hS, h2⟩, fun a ha b hb => ?_⟩
  rcases List.mem_cons.1 hb with rfl | hb
  · have hne : P ≠ [] := by rintro rfl; simp at ha
    obtain ⟨P', z, rfl⟩ : ∃ P' z, P = P' ++ [z] := ⟨_, _, (List.dropLast_concat_getLast hne).symm⟩
    have hz : lt z b := by
      rcases O.total b z with h' | h' | h'
      · exact absurd h' (hP z (by simp))
      · subst h'; exact absurd (by simp) hx
      · exact h'
    rcases List.mem_append.1 ha with ha | ha
    · exact O.trans a z b ((List.pairwise_append.1 h1).2.2 a ha z (by simp)) hz
    · rw [List.mem_singleton.1 ha]; exact hz
  · exact h3 a ha b hb
theorem mem_put {P S : List α} {x y : α} : y ∈ P ++ x :: S ↔ y = x ∨ y ∈ P ++ S := by
  simp only [List.mem_append, List.mem_cons]
  constructor
  · rintro (h | h | h)
    · exact .inr (.inl h)
    · exact .inl h
    · exact .inr (.inr h)
  · rintro (h | h | h)
    · exact .inr (.inl h)
    · exact .inl h
    · exact .inr (.inr h)
end
def Stamp.Lt (a b : Stamp) : Prop := a.T < b.T ∨ a.T = b.T ∧ a.R < b.R
def Id.Lt (a b : Id) : Prop := a.s.Lt b.s ∨ a.s = b.s ∧ a.I < b.I
theorem Stamp.ext' {a b : Stamp} (h1 : a.T = b.T) (h2 : a.R = b.R) : a = b := by
  obtain ⟨_, _, _, _⟩ := a
  obtain ⟨_, _, _, _⟩ := b
  simp only at h1 h2
  subst h1; subst h2; rfl
theorem Id.ext' {a b : Id} (h1 : a.s = b.s) (h2 : a.I = b.I) : a = b := by
  obtain ⟨_, _, _⟩ := a
  obtain ⟨_, _, _⟩ := b
  simp only at h1 h2
  subst h1; subst h2; rfl
theorem stampSTO : STO Stamp.Lt where
  irrefl a := by unfold Stamp.Lt; omega
  trans a b c h k := by unfold Stamp.Lt at *; omega
  total a b := by
    unfold Stamp.Lt
    by_cases h1 : a.T = b.T
    · by_cases h2 : a.R = b.R
      · exact .inr (.inl (Stamp.ext' h1 h2))
      · omega
    · omega
theorem idSTO : STO Id.Lt where
  irrefl a := by
    rintro (h | ⟨_, h⟩)
    · exact stampSTO.irrefl _ h
    · omega
  trans a b c h k := by
    rcases h with h | ⟨h, h'⟩ <;> rcases k with k | ⟨k, k'⟩
    · exact .inl (stampSTO.trans _ _ _ h k)
    · exact .inl (k ▸ h)
    · exact .inl (h ▸ k)
    · exact .inr ⟨h.trans k, by omega⟩
  total a b := by
    rcases stampSTO.total a.s b.s with h | h | h
    · exact .inl (.inl h)
    · rcases Int.lt_trichotomy a.I b.I with h' | h' | h'
      · exact .inl (.inr ⟨h, h'⟩)
      · exact .inr (.inl (Id.ext' h h'))
      · exact .inr (.inr (.inr ⟨h.symm, h'⟩))
    · exact .inr (.inr (.inl h))
theorem slt_iff (a b : Stamp) : a.lt b = true ↔ a.Lt b := by
  unfold Stamp.lt Stamp.Lt
  simp
theorem scmp_neg (a b : Stamp) : a.cmp b < 0 ↔ a.Lt b := by
  unfold Stamp.cmp
  rw [← slt_iff]
  constructor
  · intro h
    by_cases h1 : a.lt b = true
    · exact h1
    · rw [if_neg h1] at h; split at h <;> omega
  · intro h; rw [if_pos h]; omega
theorem scmp_zero (a b : Stamp) : a.cmp b = 0 ↔ a = b := by
  unfold Stamp.cmp
  constructor
  · intro h
    by_cases h1 : a.lt b = true
    · rw [if_pos h1] at h; omega
    · rw [if_neg h1] at h
      by_cases h2 : b.lt a = true
      · rw [if_pos h2] at h; omega
      · rw [slt_iff] at h1 h2
        rcases stampSTO.total a b with h' | h' | h'
        · exact absurd h' h1
        · exact h'
        · exact absurd h' h2
  · rintro rfl
    have : ¬ a.lt a = true := by rw [slt_iff]; exact stampSTO.irrefl a
    rw [if_neg this, if_neg this]
theorem icmp_neg (a b : Int) : icmp a b < 0 ↔ a < b := by unfold icmp; repeat' split
                                                          all_goals omega
theorem icmp_zero (a b : Int) : icmp a b = 0 ↔ a = b := by unfold icmp; repeat' split
                                                           all_goals omega
theorem icmp_id_neg (a b : Id) : a.cmp b < 0 ↔ a.Lt b := by
  unfold Id.cmp orI Id.Lt
  by_cases h : a.s.cmp b.s = 0
  · rw [if_pos h, icmp_neg]
    have e := (scmp_zero _ _).1 h
    constructor
    · intro h'; exact .inr ⟨e, h'⟩
    · rintro (h' | ⟨_, h'⟩)
      · exact absurd (e ▸ h' : b.s.Lt b.s) (stampSTO.irrefl _)
      · exact h'
  · rw [if_neg h, scmp_neg]
    constructor
    · exact .inl
    · rintro (h' | ⟨h', _⟩)
      · exact h'
      · exact absurd ((scmp_zero _ _).2 h') h
theorem icmp_id_zero (a b : Id) : a.cmp b = 0 ↔ a = b := by
  unfold Id.cmp orI
  by_cases h : a.s.cmp b.s = 0
  · rw [if_pos h, icmp_zero]
    have e := (scmp_zero _ _).1 h
    constructor
    · intro h'; exact Id.ext' e h'
    · rintro rfl; rfl
  · rw [if_neg h]
    constructor
    · intro h'; exact absurd h' h
    · rintro rfl; exact absurd ((scmp_zero _ _).2 rfl) h
end Go.Proofs.YtphapjbfaomblaaDoor
