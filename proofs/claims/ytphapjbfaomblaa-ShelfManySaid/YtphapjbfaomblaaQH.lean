/- A region that draws its order, whose head reads, lays blocks and calls (callees may answer in many ways), and whose tail waits for the whole head: one condition on the world along the head alone, so that the head's loads are taken first though the tail stores where they read. Plain, over any program. -/
import Derived.StillTail
import Derived.Deep.RegionHeld
namespace Go.Proofs.Ytphapjbfaomblaa
open Go
section
variable {P : Program} {l : List Oper} {Q : Exit → Act → World → Prop} {S : World → Prop} {n g : Nat}
/-- a walk along a head of f operations, g to come behind it -/
def HeadH (P : Program) (l : List Oper) (Q : Exit → Act → World → Prop) (S : World → Prop) (n g : Nat) : Nat → Array Bool → Act → World → Prop
  | 0, listed, a, w => (∀ j ∈ Region.ready .any l.toArray listed, n ≤ j) ∧ wpAny P .any l.toArray Q g listed a w
  | f + 1, listed, a, w =>
    Region.ready .any l.toArray listed ≠ [] ∧ ∀ i ∈ Region.ready .any l.toArray listed, i < n ∧ wpOp P l.toArray Q i (fun a' w' => S w' ∧ HeadH P l Q S n g f (listed.setIfInBounds i true) a' w') a w
theorem HeadH.of : ∀ (f : Nat) (listed : Array Bool) (a : Act) (w : World), HeadH P l Q S n g f listed a w → wpAny P .any l.toArray Q (f + g) listed a w
  | 0, listed, a, w, h => by rw [Nat.zero_add]; exact h.2
  | f + 1, listed, a, w, h => by
    rw [show f + 1 + g = (f + g) + 1 by omega]
    exact ⟨fun h0 => absurd h0 h.1, fun i hi => wpOp_mono (fun a' w' h' => HeadH.of f _ a' w' h'.2) (h.2 i hi).2⟩
/-- the whole tail waits for i -/
def tailB (l : List Oper) (n i : Nat) : Bool := Region.noSelect l.toArray && decide (i < n) && (List.range (l.length - n)).all fun t => Region.waitsFor .any l.toArray (n + t) i
theorem tail_later {i : Nat} {listed : Array Bool} (hB : tailB l n i = true) (hun : listed.getD i true = false) : ∀ t, n ≤ t → t ∉ Region.ready .any l.toArray listed := by
  intro t ht hr
  simp only [tailB, Bool.and_eq_true] at hB
  obtain ⟨_, ot, hot, hall⟩ := mem_ready.1 hr
  have htlt : t < l.length := by have := (Array.getElem?_eq_some_iff.1 hot).1; simpa using this
  have h1 := List.all_eq_true.1 hB.2 (t - n) (List.mem_range.2 (by omega))
  rw [show n + (t - n) = t by omega] at h1
  obtain ⟨o', ho', e, he, hb, hon⟩ := Region.waitsFor_spec h1
  have : o' = ot := Option.some.inj (ho'.symm.trans hot)
  subst this
  have h2 := hall e he hb
  rw [hon, getD_both hun] at h2
  cases h2
theorem HeadH.first {i : Nat} {oi : Oper} {v : Value} (hi : l.toArray[i]? = some oi) (hB : tailB l n i = true) (hQ : ∀ c a w, Q (.panic c) (a.put oi.dst v) w → Q (.panic c) a w) :
    ∀ (f : Nat) (listed : Array Bool) (a : Act) (w : World),
      (∀ j oj, l.toArray[j]? = some oj → j ≠ i → listed.getD j true = false → (∀ e ∈ oj.after, Region.binds .any e = true → e.on ≠ i) → oi.apart l.toArray oj = true) →
      i ∈ Region.ready .any l.toArray listed → YieldsIf P l.toArray S oi v a → S w →
      HeadH P l Q S n g f (listed.setIfInBounds i true) (a.put oi.dst v) w → HeadH P l Q S n g (f + 1) listed a w := by
  have hB' := hB
  simp only [tailB, Bool.and_eq_true, decide_eq_true_eq] at hB'
  have hin := hB'.1.2
  have hsel := Region.noSelect_spec hB'.1.1
  intro f
  induction f with
  | zero =>
    intro listed a w _ hr hy hS H
    have hun := (mem_ready.1 hr).1
    refine ⟨fun h => (by rw [h] at hr; cases hr), fun j hj => ?_⟩
    have hjn : j < n := by
      rcases Nat.lt_or_ge j n with h | h
      · exact h
      · exact absurd hj (tail_later hB hun j h)
    refine ⟨hjn, ?_⟩
    by_cases hji : j = i
    · subst hji; exact hy.wpOp hi hS ⟨hS, H⟩
    · have := H.1 j (ready_mono hj hji)
      omega
  | succ f ih =>
    intro listed a w hfree hr hy hS H
    have hun := (mem_ready.1 hr).1
    refine ⟨fun h => (by rw [h] at hr; cases hr), fun j hj => ?_⟩
    have hjn : j < n := by
      rcases Nat.lt_or_ge j n with h | h
      · exact h
      · exact absurd hj (tail_later hB hun j h)
    refine ⟨hjn, ?_⟩
    by_cases hji : j = i
    · subst hji; exact hy.wpOp hi hS ⟨hS, H⟩
    · have h1 := (H.2 j (ready_mono hj hji)).2
      obtain ⟨hjun, oj, hoj, hall⟩ := mem_ready.1 hj
      have hnot : ∀ e ∈ oj.after, Region.binds .any e = true → e.on ≠ i := fun e he hb heq => by
        have h1 := hall e he hb
        rw [heq, getD_both hun] at h1
        cases h1
      have h2 := wpOp_putIf hoj (hfree j oj hoj hji hjun hnot) (fun cs b => hsel i oi cs b hi) (fun cs b => hsel j oj cs b hoj) hQ hy h1
      have hfree' : ∀ k ok, l.toArray[k]? = some ok → k ≠ i → (listed.setIfInBounds j true).getD k true = false →
          (∀ e ∈ ok.after, Region.binds .any e = true → e.on ≠ i) → oi.apart l.toArray ok = true := fun k ok hk hki hun hno => by
        refine hfree k ok hk hki ?_ hno
        by_cases hjk : j = k
        · subst hjk; exact hjun
        · rw [getD_set_ne true hjk] at hun; exact hun
      refine wpOp_mono (fun a' w' h3 => ⟨h3.2.1, ih (listed.setIfInBounds j true) a' w' hfree' (ready_mono hr (Ne.symm hji)) h3.1 h3.2.1 ?_⟩) h2
      rw [Array.setIfInBounds_comm _ _ hji]
      exact h3.2.2
theorem HeadH.take {i f : Nat} {oi : Oper} {v : Value} {listed : Array Bool} {a : Act} {w : World} (hi : l[i]? = some oi) (hB : tailB l n i = true)
    (hf : Region.free .any l.toArray listed i = true) (hr : (Region.ready .any l.toArray listed).contains i = true) (hQ : ∀ c a w, Q (.panic c) (a.put oi.dst v) w → Q (.panic c) a w)
    (hy : YieldsIf P l.toArray S oi v a) (hS : S w) (h : HeadH P l Q S n g f (listed.setIfInBounds i true) (a.put oi.dst v) w) : HeadH P l Q S n g (f + 1) listed a w := by
  have hi' : l.toArray[i]? = some oi := by simpa using hi
  exact HeadH.first hi' hB hQ f listed a w (Region.free_spec hi' hf) (by simpa using hr) hy hS h
/-- each of these comes up -/
def HeadAll (P : Program) (l : List Oper) (Q : Exit → Act → World → Prop) (S : World → Prop) (n g f : Nat) (listed : Array Bool) (a : Act) (w : World) (rs : List Nat) : Prop :=
  ∀ i ∈ rs, i < n ∧ wpOp P l.toArray Q i (fun a' w' => S w' ∧ HeadH P l Q S n g f (listed.setIfInBounds i true) a' w') a w
theorem HeadH.all {rs : List Nat} {f : Nat} {listed : Array Bool} {a : Act} {w : World} (hr : Region.ready .any l.toArray listed = rs) (hne : rs.isEmpty = false)
    (h : HeadAll P l Q S n g f listed a w rs) : HeadH P l Q S n g (f + 1) listed a w := by
  subst hr
  exact ⟨fun h0 => (by rw [h0] at hne; cases hne), h⟩
theorem HeadAll.nil {f : Nat} {listed : Array Bool} {a : Act} {w : World} : HeadAll P l Q S n g f listed a w [] := fun _ h => by cases h
theorem HeadAll.cons {f i : Nat} {o : Oper} {rs : List Nat} {listed : Array Bool} {a : Act} {w : World} (ho : l[i]? = some o) (hin : decide (i < n) = true)
    (h : ∀ K' : Act → World → Prop, Shut (∀ a w, S w → (S w → HeadH P l Q S n g f (listed.setIfInBounds i true) a w) → K' a w) → if Region.wanted o (yielded l.toArray a.tmps) = true then Oper.wp P o a w K' Q else K' (a.put o.dst undef) w)
    (hs : HeadAll P l Q S n g f listed a w rs) : HeadAll P l Q S n g f listed a w (i :: rs) := fun j hj => by
  rcases List.mem_cons.1 hj with rfl | hj
  · exact ⟨of_decide_eq_true hin, wpOp_step (by simpa using ho) (fun K' hK => h K' (fun a w hS hW => hK a w ⟨hS, hW hS⟩))⟩
  · exact hs j hj
theorem HeadH.done {listed : Array Bool} {a : Act} {w : World} (hB : (Region.ready .any l.toArray listed).all (fun j => decide (n ≤ j)) = true) (h : wpAny P .any l.toArray Q g listed a w) : HeadH P l Q S n g 0 listed a w :=
  ⟨fun j hj => of_decide_eq_true (List.all_eq_true.1 hB j hj), h⟩
end
end Go.Proofs.Ytphapjbfaomblaa
