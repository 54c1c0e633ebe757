/- Groups that undo one another: which are on. Plain. -/
import Derived.Test.YtejafcdlkpmemaaP
namespace Go.Proofs.Ytejafcdlkpmemaa
/-- a group's name, and which one it undoes -/
structure Head where
  nm : Stamp
  un : Stamp
deriving DecidableEq
/-- h is the first of its name -/
def First (l : List Head) (h : Head) : Prop := l.find? (fun g => decide (g.nm = h.nm)) = some h
theorem first_mem {l : List Head} {h : Head} (f : First l h) : h ∈ l := List.mem_of_find?_eq_some f
theorem first_same {l : List Head} {g h : Head} (f : First l g) (k : First l h) (e : g.nm = h.nm) : g = h := by
  unfold First at f k
  rw [e] at f
  exact Option.some.inj (f.symm.trans k)
theorem first_snoc (l : List Head) (x h : Head) : First (l ++ [x]) h ↔ First l h ∨ h = x ∧ ∀ g ∈ l, g.nm ≠ x.nm := by
  unfold First
  rw [List.find?_append]
  cases e : l.find? (fun g => decide (g.nm = h.nm)) with
  | some y =>
    simp only [Option.some_or, Option.some.injEq]
    refine ⟨fun h1 => .inl h1, fun h1 => ?_⟩
    rcases h1 with h1 | ⟨rfl, h2⟩
    · exact h1
    · have hy := List.find?_some e
      exact absurd (by simpa using hy) (h2 y (List.mem_of_find?_eq_some e))
  | none =>
    rw [List.find?_eq_none] at e
    simp only [Option.none_or, reduceCtorEq, false_or]
    by_cases hx : x.nm = h.nm
    · simp only [List.find?_cons, hx, decide_true, Option.some.injEq]
      constructor
      · rintro rfl
        exact ⟨rfl, fun g hg => by simpa using e g hg⟩
      · rintro ⟨rfl, _⟩
        rfl
    · simp only [List.find?_cons, hx, decide_false, List.find?_nil, reduceCtorEq, false_iff]
      rintro ⟨rfl, _⟩
      exact hx rfl
theorem first_exists {l : List Head} {g : Head} (hg : g ∈ l) : ∃ h, First l h ∧ h.nm = g.nm := by
  cases e : l.find? (fun k => decide (k.nm = g.nm)) with
  | some y =>
    have hy : y.nm = g.nm := by have := List.find?_some e; simpa using this
    exact ⟨y, by unfold First; rw [hy]; exact e, hy⟩
  | none =>
    rw [List.find?_eq_none] at e
    exact absurd (decide_eq_true rfl) (e g hg)
/-- rows in one strict order that have the same members are one: no totality is asked -/
theorem sorted_same {α : Type} {lt : α → α → Prop} (irr : ∀ a, ¬ lt a a) (tr : ∀ a b c, lt a b → lt b c → lt a c) : ∀ {L M : List α}, L.Pairwise lt → M.Pairwise lt → (∀ x, x ∈ L ↔ x ∈ M) → L = M
  | [], [], _, _, _ => rfl
  | [], b :: M, _, _, h => by have := (h b).2 (by simp); simp at this
  | a :: L, [], _, _, h => by have := (h a).1 (by simp); simp at this
  | a :: L, b :: M, hL, hM, h => by
    rw [List.pairwise_cons] at hL hM
    have hab : a = b := by
      rcases List.mem_cons.1 ((h a).1 (by simp)) with e | h1
      · exact e
      · rcases List.mem_cons.1 ((h b).2 (by simp)) with e | h2
        · exact e.symm
        · exact absurd (tr _ _ _ (hL.1 b h2) (hM.1 a h1)) (irr a)
    subst hab
    congr 1
    refine sorted_same irr tr hL.2 hM.2 (fun x => ?_)
    have hx := h x
    simp only [List.mem_cons] at hx
    constructor
    · intro h1
      rcases hx.1 (.inr h1) with rfl | h2
      · exact absurd (hL.1 _ h1) (irr _)
      · exact h2
    · intro h1
      rcases hx.2 (.inr h1) with rfl | h2
      · exact absurd (hM.1 _ h1) (irr _)
      · exact h2
/-- from the latest on: one is on, unless one that is on undoes it -/
def goOn : List Head → List Head → List Head
  | acc, [] => acc
  | acc, h :: t => if acc.any (fun g => decide (g.un = h.nm)) then goOn acc t else goOn (acc ++ [h]) t
theorem goOn_snoc (acc l : List Head) (x : Head) : goOn acc (l ++ [x]) = if (goOn acc l).any (fun g => decide (g.un = x.nm)) then goOn acc l else goOn acc l ++ [x] := by
  induction l generalizing acc with
  | nil =>
    rw [List.nil_append]
    unfold goOn
    unfold goOn
    cases acc.any (fun g => decide (g.un = x.nm)) <;> rfl
  | cons a l ih =>
    rw [List.cons_append, goOn, goOn]
    split
    · exact ih acc
    · exact ih (acc ++ [a])
theorem goOn_sub (acc l : List Head) : ∀ h ∈ goOn acc l, h ∈ acc ∨ h ∈ l := by
  induction l generalizing acc with
  | nil => intro h hh; exact .inl hh
  | cons a l ih =>
    intro h hh
    rw [goOn] at hh
    split at hh
    · rcases ih acc h hh with h1 | h1
      · exact .inl h1
      · exact .inr (List.mem_cons_of_mem _ h1)
    · rcases ih _ h hh with h1 | h1
      · rcases List.mem_append.1 h1 with h1 | h1
        · exact .inl h1
        · exact .inr (by rw [List.mem_singleton.1 h1]; simp)
      · exact .inr (List.mem_cons_of_mem _ h1)
/-- what a group undoes in the end, by so many steps: the name, whether their number is even; none: not there; too many -/
inductive Rooted where
  | root (x : Stamp) (even : Bool)
  | gone
  | long
def rootGo (l : List Head) (zero : Stamp) : Nat → Stamp → Bool → Rooted
  | 0, _, _ => .long
  | n + 1, x, even => match l.find? (fun g => decide (g.nm = x)) with
    | none => .gone
    | some h => if h.un = zero then .root x even else rootGo l zero n h.un (!even)
end Go.Proofs.Ytejafcdlkpmemaa
