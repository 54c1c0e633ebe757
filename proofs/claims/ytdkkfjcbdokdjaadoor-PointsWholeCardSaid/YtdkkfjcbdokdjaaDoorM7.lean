/- What replacing a name does to a whole text: counts, there and back. Plain Lean. -/
import Derived.Test.YtdkkfjcbdokdjaaDoorM6
import Derived.Test.YtdkkfjcbdokdjaaDoorW19
namespace Go.Proofs.YtdkkfjcbdokdjaaDoor
open Go
def singles (l : Bs) : List Bs := l.map fun b => [b]
theorem singles_flatten : ∀ l : Bs, (singles l).flatten = l
  | [] => rfl
  | b :: l => by
    show [b] ++ (singles l).flatten = b :: l
    rw [singles_flatten l]; rfl
theorem ident_parts {l : Bs} (h : identL l = true) : l ≠ [] ∧ ∀ b ∈ l, partU b = true := by
  match l, h with
  | b :: t, h =>
    have h' : (letterU b && (b :: t).all partU) = true := h
    rw [Bool.and_eq_true] at h'
    exact ⟨by simp, fun c hc => List.all_eq_true.1 h'.2 c hc⟩
theorem singles_parts {l : Bs} (h : identL l = true) : singles l ≠ [] ∧ ∀ p ∈ singles l, partP p = true := by
  obtain ⟨h0, h1⟩ := ident_parts h
  refine ⟨by unfold singles; simpa using h0, fun p hp => ?_⟩
  unfold singles at hp
  obtain ⟨b, hb, rfl⟩ := List.mem_map.1 hp
  have h2 := h1 b hb
  have h3 : b.toNat < 128 := by
    have := part_lt (c := (b.toNat : Nat)) h2
    omega
  unfold partP
  rw [Lib.decodeL_ascii b [] h3]
  exact h2
theorem singles_ok {l : Bs} (h : identL l = true) : AllP (singles l) := by
  obtain ⟨_, h1⟩ := ident_parts h
  refine all_ascii l fun b hb => ?_
  have := part_lt (c := (b.toNat : Nat)) (h1 b hb)
  omega
theorem isW_singles {l : Bs} (h : identL l = true) : isW (singles l) = true := by
  obtain ⟨h0, h1⟩ := singles_parts h
  cases hs : singles l with
  | nil => exact absurd hs h0
  | cons p t => rw [hs] at h1; exact h1 p List.mem_cons_self
theorem isName_singles {l : Bs} (h : identL l = true) (nm : Bs) : isName nm (singles l) = (l == nm) := by
  rw [isName_word (isW_singles h), singles_flatten]
theorem isName_isW {nm : Bs} {t : List Bs} (h : isName nm t = true) : isW t = true ∧ t.flatten = nm := by
  unfold isName at h
  rw [Bool.and_eq_true] at h
  exact ⟨h.1, by simpa using h.2⟩
theorem isW_swap {nm by_ : Bs} (hb : identL by_ = true) (t : List Bs) : isW (swap nm (singles by_) t) = isW t := by
  unfold swap
  cases h : isName nm t
  · rfl
  · rw [if_pos rfl, isW_singles hb, (isName_isW h).1]
theorem good_swap {nm by_ : Bs} (hb : identL by_ = true) : ∀ {T : List (List Bs)}, Good T → Good (T.map (swap nm (singles by_)))
  | [], _ => trivial
  | t :: T, h => by
    rw [List.map_cons]
    refine good_cons ?_ (good_swap hb h.tail) ?_
    · unfold swap
      cases hn : isName nm t
      · exact h.head
      · exact .inl (singles_parts hb)
    · intro u m e hc
      cases T with
      | nil => cases e
      | cons u' m' =>
        rw [List.map_cons] at e
        obtain ⟨rfl, _⟩ := List.cons.inj e
        rw [isW_swap hb, isW_swap hb] at hc
        exact h.2.1 hc
theorem allP_swap {nm by_ : Bs} (hb : identL by_ = true) : ∀ {T : List (List Bs)}, AllP T.flatten → AllP (T.map (swap nm (singles by_))).flatten
  | [], _ => AllP.nil
  | t :: T, h => by
    rw [List.flatten_cons] at h
    rw [List.map_cons, List.flatten_cons]
    refine AllP.append ?_ (allP_swap hb h.right)
    unfold swap
    cases hn : isName nm t
    · exact h.left
    · exact singles_ok hb
/-- the text that replacing gives, as pieces -/
def swapped (ps : List Bs) (nm by_ : Bs) : List Bs := ((toks ps []).map (swap nm (singles by_))).flatten
theorem toks_self (ps : List Bs) : (toks ps []).flatten = ps := by rw [toks_flatten]; rfl
theorem toks_ok (ps : List Bs) : Good (toks ps []) := (toks_good ps [] (fun q hq => by cases hq)).1
theorem find_count_of {T : List (List Bs)} (h : Good T) (nm : Bs) : (findOf T.flatten nm).length = T.countP (isName nm) := find_toks nm T [] h
theorem find_count (ps : List Bs) (nm : Bs) : (findOf ps nm).length = (toks ps []).countP (isName nm) := by
  have := find_count_of (toks_ok ps) nm
  rwa [toks_self] at this
theorem find_swapped {ps : List Bs} {nm by_ : Bs} (hb : identL by_ = true) (x : Bs) : (findOf (swapped ps nm by_) x).length = ((toks ps []).map (swap nm (singles by_))).countP (isName x) :=
  find_count_of (good_swap hb (toks_ok ps)) x
theorem repl_of {T : List (List Bs)} (h : Good T) (nm by_ : Bs) : replTo T.flatten by_ (findOf T.flatten nm) 0 = (T.map (swap nm (singles by_))).flatten.flatten := by
  have := repl_toks nm (singles by_) T [] 0 h (Nat.le_refl _)
  rw [singles_flatten] at this
  exact this
theorem repl_swapped (ps : List Bs) (nm by_ : Bs) : replTo ps by_ (findOf ps nm) 0 = (swapped ps nm by_).flatten := by
  have := repl_of (toks_ok ps) nm by_
  rwa [toks_self] at this
theorem swapped_ok {ps : List Bs} {nm by_ : Bs} (hps : AllP ps) (hb : identL by_ = true) : AllP (swapped ps nm by_) :=
  allP_swap hb (by rw [toks_self]; exact hps)
theorem count_gone {nm by_ : Bs} (hb : identL by_ = true) (hne : nm ≠ by_) : ∀ T : List (List Bs), (T.map (swap nm (singles by_))).countP (isName nm) = 0
  | [] => rfl
  | t :: T => by
    rw [List.map_cons, List.countP_cons, count_gone hb hne T]
    have : isName nm (swap nm (singles by_) t) = false := by
      unfold swap
      cases h : isName nm t
      · exact h
      · rw [if_pos rfl, isName_singles hb]; simpa using fun e => hne e.symm
    rw [this]; rfl
theorem count_more {nm by_ : Bs} (hb : identL by_ = true) (hne : nm ≠ by_) : ∀ T : List (List Bs), (T.map (swap nm (singles by_))).countP (isName by_) = T.countP (isName nm) + T.countP (isName by_)
  | [] => rfl
  | t :: T => by
    rw [List.map_cons, List.countP_cons, count_more hb hne T, List.countP_cons, List.countP_cons]
    unfold swap
    cases h : isName nm t
    · simp only [Bool.false_eq_true, if_false]; omega
    · rw [if_pos rfl, isName_singles hb]
      have h2 : isName by_ t = false := by
        cases h3 : isName by_ t
        · rfl
        · exact absurd ((isName_isW h).2.symm.trans (isName_isW h3).2) hne
      rw [h2]
      simp; omega
theorem swap_self {nm : Bs} : ∀ T : List (List Bs), (T.map (swap nm (singles nm))).flatten.flatten = T.flatten.flatten
  | [] => rfl
  | t :: T => by
    rw [List.map_cons, List.flatten_cons, List.flatten_append, swap_self T, List.flatten_cons, List.flatten_append]
    unfold swap
    cases h : isName nm t
    · rfl
    · rw [if_pos rfl, singles_flatten, (isName_isW h).2]
theorem swap_back {nm by_ : Bs} (hb : identL by_ = true) : ∀ T : List (List Bs), T.countP (isName by_) = 0 →
    ((T.map (swap nm (singles by_))).map (swap by_ (singles nm))).flatten.flatten = T.flatten.flatten
  | [], _ => rfl
  | t :: T, h0 => by
    rw [List.countP_cons] at h0
    have hz : isName by_ t = false := by
      cases h : isName by_ t
      · rfl
      · rw [h] at h0; simp at h0
    rw [List.map_cons, List.map_cons, List.flatten_cons, List.flatten_append, swap_back hb T (by omega), List.flatten_cons, List.flatten_append]
    have e : (swap by_ (singles nm) (swap nm (singles by_) t)).flatten = t.flatten := by
      cases h : isName nm t
      · have e1 : swap nm (singles by_) t = t := by unfold swap; rw [h]; rfl
        rw [e1]; unfold swap; rw [hz]; rfl
      · have e1 : swap nm (singles by_) t = singles by_ := by unfold swap; rw [h]; rfl
        rw [e1]; unfold swap
        rw [isName_singles hb]
        simp [singles_flatten, (isName_isW h).2]
    rw [e]
theorem self_text (ps : List Bs) (nm : Bs) : replTo ps nm (findOf ps nm) 0 = ps.flatten := by
  rw [repl_swapped]; unfold swapped; rw [swap_self, toks_self]
theorem gone_len {ps : List Bs} {nm by_ : Bs} (hb : identL by_ = true) (hne : nm ≠ by_) : (findOf (swapped ps nm by_) nm).length = 0 := by rw [find_swapped hb, count_gone hb hne]
theorem more_len {ps : List Bs} {nm by_ : Bs} (hb : identL by_ = true) (hne : nm ≠ by_) : (findOf (swapped ps nm by_) by_).length = (findOf ps nm).length + (findOf ps by_).length := by
  rw [find_swapped hb, count_more hb hne, find_count, find_count]
theorem back_text {ps : List Bs} {nm by_ : Bs} (hb : identL by_ = true) (h0 : (findOf ps by_).length = 0) : replTo (swapped ps nm by_) nm (findOf (swapped ps nm by_) by_) 0 = ps.flatten := by
  rw [find_count] at h0
  unfold swapped
  rw [repl_of (good_swap hb (toks_ok ps)), swap_back hb _ h0, toks_self]
theorem swap_len {nm by_ : Bs} (hn : identL nm = true) : ∀ T : List (List Bs), (T.map (swap nm (singles by_))).flatten.flatten.length ≤ T.flatten.flatten.length * (by_.length + 1)
  | [] => Nat.zero_le _
  | t :: T => by
    have ih := swap_len (by_ := by_) hn T
    rw [List.map_cons, List.flatten_cons, List.flatten_append, List.length_append, List.flatten_cons, List.flatten_append, List.length_append, Nat.add_mul]
    have : (swap nm (singles by_) t).flatten.length ≤ t.flatten.length * (by_.length + 1) := by
      unfold swap
      cases h : isName nm t
      · exact Nat.le_mul_of_pos_right _ (Nat.succ_pos _)
      · rw [if_pos rfl, singles_flatten, (isName_isW h).2]
        have h1 : 1 ≤ nm.length := by
          have := (ident_parts hn).1
          cases nm with
          | nil => exact absurd rfl this
          | cons a l => simp
        have := Nat.mul_le_mul_right (by_.length + 1) h1
        omega
    omega
theorem swapped_len {ps : List Bs} {nm by_ : Bs} (hn : identL nm = true) : (swapped ps nm by_).flatten.length ≤ ps.flatten.length * (by_.length + 1) := by
  have := swap_len (by_ := by_) hn (toks ps [])
  rw [toks_self] at this
  exact this
end Go.Proofs.YtdkkfjcbdokdjaaDoor
