/- What replacing a name does: the words of a text, one by one. Plain Lean. -/
import Derived.Test.YtdkkfjcbdokdjaaDoorM5
import Derived.Test.YtdkkfjcbdokdjaaDoorW10
namespace Go.Proofs.YtdkkfjcbdokdjaaDoor
open Go
/-- a token: a word (parts alone), or one piece that is no part -/
def isW (t : List Bs) : Bool := partP (t.headD [])
def tokOk (t : List Bs) : Prop := (t ≠ [] ∧ ∀ p ∈ t, partP p = true) ∨ ∃ p, t = [p] ∧ partP p = false
/-- tokens, no two words beside one another -/
def Good : List (List Bs) → Prop
  | [] => True
  | [t] => tokOk t
  | t :: u :: l => tokOk t ∧ ¬ (isW t = true ∧ isW u = true) ∧ Good (u :: l)
theorem Good.head {t : List Bs} {l : List (List Bs)} (h : Good (t :: l)) : tokOk t := by
  cases l with
  | nil => exact h
  | cons u l => exact h.1
theorem Good.tail {t : List Bs} {l : List (List Bs)} (h : Good (t :: l)) : Good l := by
  cases l with
  | nil => trivial
  | cons u l => exact h.2.2
theorem Good.next {t u : List Bs} {l : List (List Bs)} (h : Good (t :: u :: l)) (ht : isW t = true) : isW u = false := by
  cases hu : isW u
  · rfl
  · exact absurd ⟨ht, hu⟩ h.2.1
theorem good_cons {t : List Bs} {l : List (List Bs)} (h1 : tokOk t) (h2 : Good l) (h3 : ∀ u m, l = u :: m → ¬ (isW t = true ∧ isW u = true)) : Good (t :: l) := by
  cases l with
  | nil => exact h1
  | cons u l => exact ⟨h1, h3 u l rfl, h2⟩
theorem tok_word {t : List Bs} (h : tokOk t) (hw : isW t = true) : t ≠ [] ∧ ∀ p ∈ t, partP p = true := by
  rcases h with h | ⟨p, rfl, hp⟩
  · exact h
  · have : partP p = true := hw
    rw [hp] at this; cases this
theorem tok_gap {t : List Bs} (h : tokOk t) (hw : isW t = false) : ∃ p, t = [p] ∧ partP p = false := by
  rcases h with ⟨h1, h2⟩ | h
  · cases t with
    | nil => exact absurd rfl h1
    | cons p l =>
      have h3 := h2 p List.mem_cons_self
      have : partP p = false := hw
      rw [h3] at this; cases this
  · exact h
def toks : List Bs → List Bs → List (List Bs)
  | [], acc => if acc = [] then [] else [acc]
  | p :: ps, acc => if partP p then toks ps (acc ++ [p]) else if acc = [] then [p] :: toks ps [] else acc :: [p] :: toks ps []
theorem toks_flatten : ∀ (ps acc : List Bs), (toks ps acc).flatten = acc ++ ps
  | [], acc => by
    unfold toks
    by_cases h : acc = []
    · rw [if_pos h, h]; rfl
    · rw [if_neg h]; simp
  | p :: ps, acc => by
    unfold toks
    by_cases hp : partP p = true
    · rw [if_pos hp, toks_flatten ps (acc ++ [p])]; simp
    · rw [if_neg hp]
      by_cases h : acc = []
      · rw [if_pos h, List.flatten_cons, toks_flatten ps [], h]; simp
      · rw [if_neg h, List.flatten_cons, List.flatten_cons, toks_flatten ps []]; simp
theorem toks_good : ∀ (ps acc : List Bs), (∀ p ∈ acc, partP p = true) → Good (toks ps acc) ∧ (acc = [] → ps ≠ [] → ∀ u m, toks ps acc = u :: m → True)
  | [], acc, h => by
    unfold toks
    by_cases h0 : acc = []
    · rw [if_pos h0]; exact ⟨trivial, fun _ _ _ _ _ => trivial⟩
    · rw [if_neg h0]; exact ⟨.inl ⟨h0, h⟩, fun _ _ _ _ _ => trivial⟩
  | p :: ps, acc, h => by
    refine ⟨?_, fun _ _ _ _ _ => trivial⟩
    unfold toks
    by_cases hp : partP p = true
    · rw [if_pos hp]
      exact (toks_good ps (acc ++ [p]) (fun q hq => by
        rcases List.mem_append.1 hq with hq | hq
        · exact h q hq
        · rw [List.mem_singleton.1 hq]; exact hp)).1
    · rw [if_neg hp]
      have hp' : partP p = false := by simpa using hp
      have hg := (toks_good ps [] (fun q hq => by cases hq)).1
      have hgap : Good ([p] :: toks ps []) := good_cons (.inr ⟨p, rfl, hp'⟩) hg (fun u m _ hc => by
        have : partP p = true := hc.1
        rw [hp'] at this; cases this)
      by_cases h0 : acc = []
      · rw [if_pos h0]; exact hgap
      · rw [if_neg h0]
        exact good_cons (.inl ⟨h0, h⟩) hgap (fun u m e hc => by
          obtain ⟨e1, _⟩ := List.cons.inj e
          rw [← e1] at hc
          have : partP p = true := hc.2
          rw [hp'] at this; cases this)
/-- the head of what follows a word is no part -/
theorem tw_word : ∀ (w : List Bs) (T : List (List Bs)), (∀ p ∈ w, partP p = true) → Good T → (∀ u m, T = u :: m → isW u = false) → tw (w ++ T.flatten) = w.length
  | [], [], _, _, _ => rfl
  | [], u :: m, _, hg, hn => by
    obtain ⟨p, rfl, hp⟩ := tok_gap hg.head (hn u m rfl)
    show tw (p :: m.flatten) = 0
    rw [tw_cons, hp]; rfl
  | p :: w, T, h, hg, hn => by
    show tw (p :: (w ++ T.flatten)) = _
    rw [tw_cons, h p List.mem_cons_self, if_pos rfl, tw_word w T (fun q hq => h q (List.mem_cons_of_mem _ hq)) hg hn]
    rfl
theorem run_gap (p : Bs) (l : List Bs) (k : Nat) (hp : partP p = false) : runGo (p :: l) k none = runGo l (k + 1) none := by
  simp only [runGo]; rw [if_neg (by rw [hp]; simp)]
theorem run_word (w : List Bs) (T : List (List Bs)) (k : Nat) (h0 : w ≠ []) (h : ∀ p ∈ w, partP p = true) (hg : Good T) (hn : ∀ u m, T = u :: m → isW u = false) :
    runGo (w ++ T.flatten) k none = (k, k + w.length) :: runGo T.flatten (k + w.length) none := by
  cases w with
  | nil => exact absurd rfl h0
  | cons p w =>
    show runGo (p :: (w ++ T.flatten)) k none = _
    simp only [runGo]
    rw [if_pos (h p List.mem_cons_self), runGo_some, tw_word w T (fun q hq => h q (List.mem_cons_of_mem _ hq)) hg hn, List.drop_left, List.length_cons]
    rw [show k + 1 + w.length = k + (w.length + 1) by omega]
def isName (name : Bs) (t : List Bs) : Bool := isW t && t.flatten == name
def swap (name : Bs) (new : List Bs) (t : List Bs) : List Bs := if isName name t then new else t
theorem isName_gap {name : Bs} {t : List Bs} (h : isW t = false) : isName name t = false := by unfold isName; rw [h]; rfl
theorem isName_word {name : Bs} {t : List Bs} (h : isW t = true) : isName name t = (t.flatten == name) := by unfold isName; rw [h]; rfl
theorem word_at (pre w rest : List Bs) : word (pre ++ (w ++ rest)) (pre.length, pre.length + w.length) = w.flatten := by
  unfold word
  rw [List.drop_left, Nat.add_sub_cancel_left, List.take_left]
theorem find_toks (name : Bs) : ∀ (T : List (List Bs)) (pre : List Bs), Good T →
    ((runGo T.flatten pre.length none).filter (fun r => word (pre ++ T.flatten) r == name)).length = T.countP (isName name)
  | [], pre, _ => rfl
  | t :: T, pre, hg => by
    rw [List.flatten_cons]
    cases hw : isW t
    · obtain ⟨p, rfl, hp⟩ := tok_gap hg.head hw
      have ih := find_toks name T (pre ++ [p]) hg.tail
      rw [List.length_append, List.length_singleton] at ih
      show ((runGo (p :: T.flatten) pre.length none).filter (fun r => word (pre ++ (p :: T.flatten)) r == name)).length = _
      rw [run_gap p _ _ hp, List.countP_cons, isName_gap hw]
      rw [show pre ++ (p :: T.flatten) = pre ++ [p] ++ T.flatten by simp, ih]
      simp
    · obtain ⟨h0, h1⟩ := tok_word hg.head hw
      have ih := find_toks name T (pre ++ t) hg.tail
      rw [List.length_append] at ih
      rw [run_word t T _ h0 h1 hg.tail (fun u m e => by subst e; exact hg.next hw), List.filter_cons, List.countP_cons, isName_word hw]
      have hx : (word (pre ++ (t ++ T.flatten)) (pre.length, pre.length + t.length) == name) = (t.flatten == name) := by rw [word_at]
      rw [hx]
      rw [show pre ++ (t ++ T.flatten) = pre ++ t ++ T.flatten by simp]
      cases hn : (t.flatten == name)
      · rw [if_neg (by simp), ih]; simp
      · rw [if_pos rfl, List.length_cons, ih]; simp
theorem repl_toks (name : Bs) (new : List Bs) : ∀ (T : List (List Bs)) (pre : List Bs) (a : Nat), Good T → a ≤ pre.length →
    replTo (pre ++ T.flatten) new.flatten ((runGo T.flatten pre.length none).filter (fun r => word (pre ++ T.flatten) r == name)) a = (pre.drop a).flatten ++ (T.map (swap name new)).flatten.flatten
  | [], pre, a, _, ha => by simp [runGo, replTo]
  | t :: T, pre, a, hg, ha => by
    rw [List.flatten_cons, List.map_cons, List.flatten_cons, List.flatten_append]
    cases hw : isW t
    · obtain ⟨p, rfl, hp⟩ := tok_gap hg.head hw
      have ih := repl_toks name new T (pre ++ [p]) a hg.tail (by rw [List.length_append]; omega)
      rw [List.length_append, List.length_singleton] at ih
      have e : pre ++ ([p] ++ T.flatten) = pre ++ [p] ++ T.flatten := by simp
      have hs : swap name new [p] = [p] := by unfold swap; rw [isName_gap hw]; rfl
      rw [e, hs]
      show replTo _ _ ((runGo (p :: T.flatten) pre.length none).filter _) a = _
      rw [run_gap p _ _ hp, ih, List.drop_append_of_le_length ha, List.flatten_append, List.append_assoc]
    · obtain ⟨h0, h1⟩ := tok_word hg.head hw
      have e : pre ++ (t ++ T.flatten) = pre ++ t ++ T.flatten := by simp
      rw [run_word t T _ h0 h1 hg.tail (fun u m e => by subst e; exact hg.next hw), List.filter_cons]
      have hx : (word (pre ++ (t ++ T.flatten)) (pre.length, pre.length + t.length) == name) = (t.flatten == name) := by rw [word_at]
      rw [hx]
      cases hn : (t.flatten == name)
      · have hs : swap name new t = t := by unfold swap; rw [isName_word hw, hn]; rfl
        have ih := repl_toks name new T (pre ++ t) a hg.tail (by rw [List.length_append]; omega)
        rw [List.length_append] at ih
        rw [if_neg (by simp), hs, e, ih, List.drop_append_of_le_length ha, List.flatten_append, List.append_assoc]
      · have hs : swap name new t = new := by unfold swap; rw [isName_word hw, hn]; rfl
        have ih := repl_toks name new T (pre ++ t) (pre.length + t.length) hg.tail (by rw [List.length_append]; omega)
        rw [List.length_append] at ih
        rw [if_pos rfl, hs]
        simp only [replTo]
        rw [e, ih]
        have e1 : ((pre ++ t ++ T.flatten).drop a).take (pre.length - a) = pre.drop a := by
          rw [List.append_assoc, List.drop_append_of_le_length ha, List.take_append_of_le_length (by rw [List.length_drop]; omega), List.take_of_length_le (by rw [List.length_drop]; omega)]
        have e2 : ((pre ++ t).drop (pre.length + t.length)) = [] := List.drop_eq_nil_of_le (by rw [List.length_append]; omega)
        rw [e1, e2]
        simp
end Go.Proofs.YtdkkfjcbdokdjaaDoor
