/- QH's take where the tail waits for the head's load through other operations. Plain, over any program. -/
import Derived.Test.YtphapjbfaomblaaQH
namespace Go.Proofs.Ytphapjbfaomblaa
open Go
section
variable {P : Program} {l : List Oper} {Q : Exit → Act → World → Prop} {S : World → Prop} {n g : Nat}
/-- t waits for i, by way of others -/
def reachB (l : List Oper) : Nat → Nat → Nat → Bool
  | 0, _, _ => false
  | f + 1, t, i => Region.waitsFor .any l.toArray t i || (List.range l.length).any fun j => Region.waitsFor .any l.toArray t j && reachB l f j i
/-- what is listed has all listed that it waits for -/
def Closed (l : List Oper) (listed : Array Bool) : Prop := ∀ t j, Region.waitsFor .any l.toArray t j = true → listed.getD t true = true → listed.getD j true = true
def closedB (l : List Oper) (listed : Array Bool) : Bool := (List.range l.length).all fun t => (List.range l.length).all fun j => !(Region.waitsFor .any l.toArray t j && listed.getD t true) || listed.getD j true
theorem waits_lt {t j : Nat} (h : Region.waitsFor .any l.toArray t j = true) : t < l.length := by
  obtain ⟨o', ho', _⟩ := Region.waitsFor_spec h
  have := (Array.getElem?_eq_some_iff.1 ho').1
  simpa using this
theorem closed_of {listed : Array Bool} (hs : listed.size = l.length) (h : closedB l listed = true) : Closed l listed := by
  intro t j hw hl
  rcases Nat.lt_or_ge j l.length with hj | hj
  · have h1 := List.all_eq_true.1 (List.all_eq_true.1 h t (List.mem_range.2 (waits_lt hw))) j (List.mem_range.2 hj)
    rw [hw, hl] at h1
    simpa using h1
  · rw [Array.getD_eq_getD_getElem?, Array.getElem?_eq_none (by omega)]
    rfl
theorem reach_listed : ∀ (f : Nat) {t i : Nat} {listed : Array Bool}, Closed l listed → reachB l f t i = true → listed.getD t true = true → listed.getD i true = true
  | 0, _, _, _, _, h, _ => by cases h
  | f + 1, t, i, listed, hc, h, hl => by
    unfold reachB at h
    rw [Bool.or_eq_true] at h
    rcases h with h | h
    · exact hc t i h hl
    · obtain ⟨j, _, hj⟩ := List.any_eq_true.1 h
      rw [Bool.and_eq_true] at hj
      exact reach_listed f hc hj.2 (hc t j hj.1 hl)
def tailC (l : List Oper) (n i : Nat) : Bool := Region.noSelect l.toArray && decide (i < n) && (List.range (l.length - n)).all fun t => reachB l 3 (n + t) i
theorem ready_waits {t j : Nat} {listed : Array Bool} (hr : t ∈ Region.ready .any l.toArray listed) (hw : Region.waitsFor .any l.toArray t j = true) : listed.getD j true = true := by
  obtain ⟨_, ot, hot, hall⟩ := mem_ready.1 hr
  obtain ⟨o', ho', e, he, hb, hon⟩ := Region.waitsFor_spec hw
  have : o' = ot := Option.some.inj (ho'.symm.trans hot)
  subst this
  have h2 := hall e he hb
  rw [hon] at h2
  cases hj : listed.getD j true with
  | true => rfl
  | false => rw [getD_both hj] at h2; cases h2
theorem tail_later2 {i : Nat} {listed : Array Bool} (hc : Closed l listed) (hB : tailC l n i = true) (hun : listed.getD i true = false) : ∀ t, n ≤ t → t ∉ Region.ready .any l.toArray listed := by
  intro t ht hr
  simp only [tailC, Bool.and_eq_true] at hB
  have htlt : t < l.length := by
    obtain ⟨_, ot, hot, _⟩ := mem_ready.1 hr
    have := (Array.getElem?_eq_some_iff.1 hot).1
    simpa using this
  have h1 := List.all_eq_true.1 hB.2 (t - n) (List.mem_range.2 (by omega))
  rw [show n + (t - n) = t by omega] at h1
  unfold reachB at h1
  rw [Bool.or_eq_true] at h1
  have : listed.getD i true = true := by
    rcases h1 with h1 | h1
    · exact ready_waits hr h1
    · obtain ⟨j, _, hj⟩ := List.any_eq_true.1 h1
      rw [Bool.and_eq_true] at hj
      exact reach_listed 2 hc hj.2 (ready_waits hr hj.1)
  rw [hun] at this
  cases this
theorem Closed.set {j : Nat} {listed : Array Bool} (hc : Closed l listed) (hr : j ∈ Region.ready .any l.toArray listed) : Closed l (listed.setIfInBounds j true) := by
  have hmono : ∀ k, listed.getD k true = true → (listed.setIfInBounds j true).getD k true = true := fun k hk => by
    by_cases hjk : j = k
    · subst hjk
      rw [Array.getD_eq_getD_getElem?, Array.getElem?_setIfInBounds]
      split
      · split <;> rfl
      · rw [← Array.getD_eq_getD_getElem?]; exact hk
    · rw [getD_set_ne true hjk]; exact hk
  intro t k hw hl
  by_cases hjt : j = t
  · subst hjt
    exact hmono k (ready_waits hr hw)
  · rw [getD_set_ne true hjt] at hl
    exact hmono k (hc t k hw hl)
theorem HeadH.first2 {i : Nat} {oi : Oper} {v : Value} (hi : l.toArray[i]? = some oi) (hB : tailC l n i = true) (hQ : ∀ c a w, Q (.panic c) (a.put oi.dst v) w → Q (.panic c) a w) :
    ∀ (f : Nat) (listed : Array Bool) (a : Act) (w : World), Closed l listed →
      (∀ j oj, l.toArray[j]? = some oj → j ≠ i → listed.getD j true = false → (∀ e ∈ oj.after, Region.binds .any e = true → e.on ≠ i) → oi.apart l.toArray oj = true) →
      i ∈ Region.ready .any l.toArray listed → YieldsIf P l.toArray S oi v a → S w →
      HeadH P l Q S n g f (listed.setIfInBounds i true) (a.put oi.dst v) w → HeadH P l Q S n g (f + 1) listed a w := by
  have hB' := hB
  simp only [tailC, Bool.and_eq_true, decide_eq_true_eq] at hB'
  have hin := hB'.1.2
  have hsel := Region.noSelect_spec hB'.1.1
  intro f
  induction f with
  | zero =>
    intro listed a w hc _ hr hy hS H
    have hun := (mem_ready.1 hr).1
    refine ⟨fun h => (by rw [h] at hr; cases hr), fun j hj => ?_⟩
    have hjn : j < n := by
      rcases Nat.lt_or_ge j n with h | h
      · exact h
      · exact absurd hj (tail_later2 hc hB hun j h)
    refine ⟨hjn, ?_⟩
    by_cases hji : j = i
    · subst hji; exact hy.wpOp hi hS ⟨hS, H⟩
    · have := H.1 j (ready_mono hj hji)
      omega
  | succ f ih =>
    intro listed a w hc hfree hr hy hS H
    have hun := (mem_ready.1 hr).1
    refine ⟨fun h => (by rw [h] at hr; cases hr), fun j hj => ?_⟩
    have hjn : j < n := by
      rcases Nat.lt_or_ge j n with h | h
      · exact h
      · exact absurd hj (tail_later2 hc hB hun j h)
    refine ⟨hjn, ?_⟩
    by_cases hji : j = i
    · subst hji; exact hy.wpOp hi hS ⟨hS, H⟩
    · have h1 := (H.2 j (ready_mono hj hji)).2
      obtain ⟨hjun, oj, hoj, hall⟩ := mem_ready.1 hj
      have hnot : ∀ e ∈ oj.after, Region.binds .any e = true → e.on ≠ i := fun e he hb heq => by
        have h1 := hall e he hb
        rw [heq, getD_both hun] at h1
        cases h1
      have h2 := wpOp_putIf hoj (hfree j oj hoj hji hjun hnot) (fun cs b => hsel i oi cs b hi) (fun cs b => hsel j oj cs b hoj) hQ hy h1
      have hfree' : ∀ k ok, l.toArray[k]? = some ok → k ≠ i → (listed.setIfInBounds j true).getD k true = false →
          (∀ e ∈ ok.after, Region.binds .any e = true → e.on ≠ i) → oi.apart l.toArray ok = true := fun k ok hk hki hun hno => by
        refine hfree k ok hk hki ?_ hno
        by_cases hjk : j = k
        · subst hjk; exact hjun
        · rw [getD_set_ne true hjk] at hun; exact hun
      refine wpOp_mono (fun a' w' h3 => ⟨h3.2.1, ih (listed.setIfInBounds j true) a' w' (hc.set hj) hfree' (ready_mono hr (Ne.symm hji)) h3.1 h3.2.1 ?_⟩) h2
      rw [Array.setIfInBounds_comm _ _ hji]
      exact h3.2.2
theorem HeadH.take2 {i f : Nat} {oi : Oper} {v : Value} {listed : Array Bool} {a : Act} {w : World} (hi : l[i]? = some oi) (hB : tailC l n i = true) (hs : listed.size = l.length) (hcl : closedB l listed = true)
    (hf : Region.free .any l.toArray listed i = true) (hr : (Region.ready .any l.toArray listed).contains i = true) (hQ : ∀ c a w, Q (.panic c) (a.put oi.dst v) w → Q (.panic c) a w)
    (hy : YieldsIf P l.toArray S oi v a) (hS : S w) (h : HeadH P l Q S n g f (listed.setIfInBounds i true) (a.put oi.dst v) w) : HeadH P l Q S n g (f + 1) listed a w := by
  have hi' : l.toArray[i]? = some oi := by simpa using hi
  exact HeadH.first2 hi' hB hQ f listed a w (closed_of hs hcl) (Region.free_spec hi' hf) (by simpa using hr) hy hS h
end
end Go.Proofs.Ytphapjbfaomblaa
