/- The runs of parts: as the program makes them and as the document looks for them. Plain Lean. -/
import Derived.Test.YtdkkfjcbdokdjaaDoorM3
namespace Go.Proofs.YtdkkfjcbdokdjaaDoor
open Go
def runGo : List Bs → Nat → Option Nat → List (Nat × Nat)
  | [], _, none => []
  | [], k, some a => [(a, k)]
  | p :: ps, k, none => if partP p then runGo ps (k + 1) (some k) else runGo ps (k + 1) none
  | p :: ps, k, some a => if partP p then runGo ps (k + 1) (some a) else (a, k) :: runGo ps (k + 1) none
def runsOf (ps : List Bs) : List (Nat × Nat) := runGo ps 0 none
def off (ps : List Bs) (k : Nat) : Nat := (ps.take k).flatten.length
def row4 (ps : List Bs) (r : Nat × Nat) : R4 := (off ps r.1, r.1, off ps r.2, r.2)
theorem off_succ (ps : List Bs) (k : Nat) (h : k < ps.length) : off ps (k + 1) = off ps k + ps[k].length := by
  unfold off
  rw [List.take_succ_eq_append_getElem h, List.flatten_append, List.length_append]
  simp
theorem rows_runs_go (ps : List Bs) : ∀ (l : List Bs) (k : Nat), ps.drop k = l →
    rowsGo l (off ps k) k none = (runGo l k none).map (row4 ps) ∧ ∀ a, rowsGo l (off ps k) k (some (off ps a, a)) = (runGo l k (some a)).map (row4 ps) := by
  intro l
  induction l with
  | nil => exact fun k _ => ⟨rfl, fun a => rfl⟩
  | cons p l ih =>
    intro k hk
    have hlt : k < ps.length := by
      rcases Nat.lt_or_ge k ps.length with h | h
      · exact h
      · rw [List.drop_eq_nil_of_le h] at hk; cases hk
    rw [List.drop_eq_getElem_cons hlt] at hk
    obtain ⟨h1, h2⟩ := List.cons.inj hk
    have ho := off_succ ps k hlt
    rw [h1] at ho
    obtain ⟨ih1, ih2⟩ := ih (k + 1) h2
    rw [ho] at ih1 ih2
    constructor
    · simp only [rowsGo, runGo]
      by_cases hp : partP p = true
      · rw [if_pos hp, if_pos hp, ih2 k]
      · rw [if_neg hp, if_neg hp, ih1]
    · intro a
      simp only [rowsGo, runGo]
      by_cases hp : partP p = true
      · rw [if_pos hp, if_pos hp, ih2 a]
      · rw [if_neg hp, if_neg hp, ih1]; rfl
theorem rows_runs (ps : List Bs) : rowsOf ps = (runsOf ps).map (row4 ps) := by
  have := (rows_runs_go ps ps 0 (by simp)).1
  unfold rowsOf runsOf
  simpa [off] using this
/-- how many parts stand at the head -/
def tw (l : List Bs) : Nat := (l.takeWhile partP).length
theorem tw_cons (p : Bs) (l : List Bs) : tw (p :: l) = if partP p then tw l + 1 else 0 := by
  unfold tw
  rw [List.takeWhile_cons]
  split <;> simp
theorem tw_le (l : List Bs) : tw l ≤ l.length := List.takeWhile_sublist partP |>.length_le
theorem runGo_some : ∀ (l : List Bs) (k a : Nat), runGo l k (some a) = (a, k + tw l) :: runGo (l.drop (tw l)) (k + tw l) none
  | [], k, a => rfl
  | p :: l, k, a => by
    rw [tw_cons]
    simp only [runGo]
    by_cases hp : partP p = true
    · rw [if_pos hp, if_pos hp, runGo_some l (k + 1) a, List.drop_succ_cons, show k + (tw l + 1) = k + 1 + tw l by omega]
    · rw [if_neg hp, if_neg hp, Nat.add_zero, List.drop_zero]
      simp only [runGo]
      rw [if_neg hp]
      rfl
/-- does a run begin at a place -/
def startB (ps : List Bs) (i : Nat) : Bool := partP (ps.getD i []) && (i == 0 || !partP (ps.getD (i - 1) []))
def insideB (ps : List Bs) (i : Nat) : Bool := !(i == 0) && partP (ps.getD (i - 1) [])
/-- the runs that begin at a place or behind it -/
def rem (ps : List Bs) (i : Nat) : List (Nat × Nat) := if insideB ps i then runGo (ps.drop (i + tw (ps.drop i))) (i + tw (ps.drop i)) none else runGo (ps.drop i) i none
theorem rem_zero (ps : List Bs) : rem ps 0 = runsOf ps := by simp [rem, insideB, runsOf]
theorem rem_end (ps : List Bs) (i : Nat) (h : ps.length ≤ i) : rem ps i = [] := by
  unfold rem
  have e : ps.drop i = [] := List.drop_eq_nil_of_le h
  have e2 : ps.drop (i + tw (ps.drop i)) = [] := List.drop_eq_nil_of_le (by omega)
  rw [e2, e]
  split <;> rfl
theorem getD_lt (ps : List Bs) (i : Nat) (h : i < ps.length) : ps.getD i [] = ps[i] := by simp [List.getD, h]
theorem inside_succ (ps : List Bs) (i : Nat) (h : i < ps.length) : insideB ps (i + 1) = partP ps[i] := by
  unfold insideB
  rw [Nat.add_sub_cancel, getD_lt ps i h]
  simp
theorem rem_start (ps : List Bs) (i : Nat) (h : i < ps.length) (hs : startB ps i = true) : rem ps i = (i, i + tw (ps.drop i)) :: rem ps (i + 1) := by
  unfold startB at hs
  rw [getD_lt ps i h, Bool.and_eq_true] at hs
  obtain ⟨hp, hq⟩ := hs
  have hin : insideB ps i = false := by
    unfold insideB
    rw [Bool.or_eq_true] at hq
    rcases hq with hq | hq
    · rw [hq]; rfl
    · rw [Bool.not_eq_true'] at hq; rw [hq, Bool.and_false]
  unfold rem
  rw [hin, inside_succ ps i h, hp, if_neg (by simp), if_pos rfl]
  have hd := List.drop_eq_getElem_cons h
  have ht : tw (ps.drop i) = tw (ps.drop (i + 1)) + 1 := by rw [hd, tw_cons, if_pos hp]
  rw [ht]
  conv => lhs; rw [hd]
  simp only [runGo]
  rw [if_pos hp, runGo_some]
  rw [List.drop_drop, show i + 1 + tw (ps.drop (i + 1)) = i + (tw (ps.drop (i + 1)) + 1) by omega]
theorem rem_skip (ps : List Bs) (i : Nat) (h : i < ps.length) (hs : startB ps i = false) : rem ps i = rem ps (i + 1) := by
  unfold startB at hs
  rw [getD_lt ps i h] at hs
  have hd := List.drop_eq_getElem_cons h
  by_cases hp : partP ps[i] = true
  · have hin : insideB ps i = true := by
      unfold insideB
      rw [hp, Bool.true_and, Bool.or_eq_false_iff] at hs
      rw [hs.1, Bool.not_false, Bool.true_and]
      have := hs.2
      simpa using this
    unfold rem
    rw [hin, inside_succ ps i h, hp, if_pos rfl, if_pos rfl]
    have ht : tw (ps.drop i) = tw (ps.drop (i + 1)) + 1 := by rw [hd, tw_cons, if_pos hp]
    rw [ht, show i + (tw (ps.drop (i + 1)) + 1) = i + 1 + tw (ps.drop (i + 1)) by omega]
  · have hp' : partP ps[i] = false := by simpa using hp
    have ht : tw (ps.drop i) = 0 := by rw [hd, tw_cons, if_neg hp]
    have e : runGo (ps.drop i) i none = runGo (ps.drop (i + 1)) (i + 1) none := by
      rw [hd]; simp only [runGo]; rw [if_neg hp]
    unfold rem
    rw [inside_succ ps i h, hp', ht, Nat.add_zero, e]
    simp
/-- what is known of runs: they rise, and lie within the text -/
def Rising : Nat → Nat → List (Nat × Nat) → Prop
  | _, _, [] => True
  | a, n, r :: l => a ≤ r.1 ∧ r.1 < r.2 ∧ r.2 ≤ n ∧ Rising r.2 n l
theorem Rising.mono {a b n : Nat} (h : a ≤ b) : ∀ {l : List (Nat × Nat)}, Rising b n l → Rising a n l
  | [], _ => trivial
  | _ :: _, ⟨h1, h2, h3, h4⟩ => ⟨by omega, h2, h3, h4⟩
theorem runGo_rising : ∀ (l : List Bs) (k : Nat), Rising k (k + l.length) (runGo l k none) ∧ ∀ a, a < k → Rising a (k + l.length) (runGo l k (some a))
  | [], k => ⟨trivial, fun a h => ⟨Nat.le_refl _, h, by simp, trivial⟩⟩
  | p :: l, k => by
    obtain ⟨h1, h2⟩ := runGo_rising l (k + 1)
    rw [List.length_cons, show k + (l.length + 1) = k + 1 + l.length by omega]
    constructor
    · simp only [runGo]
      split
      · exact h2 k (by omega)
      · exact h1.mono (by omega)
    · intro a ha
      simp only [runGo]
      split
      · exact h2 a (by omega)
      · exact ⟨Nat.le_refl _, ha, by omega, h1.mono (by omega)⟩
theorem runs_rising (ps : List Bs) : Rising 0 ps.length (runsOf ps) := by
  have := (runGo_rising ps 0).1
  unfold runsOf
  simpa using this
theorem Rising.filter {n : Nat} (f : Nat × Nat → Bool) : ∀ {a : Nat} {l : List (Nat × Nat)}, Rising a n l → Rising a n (l.filter f)
  | _, [], _ => trivial
  | a, r :: l, ⟨h1, h2, h3, h4⟩ => by
    rw [List.filter_cons]
    split
    · exact ⟨h1, h2, h3, Rising.filter f h4⟩
    · exact (Rising.filter f h4).mono (by omega)
theorem Rising.mem {n : Nat} : ∀ {a : Nat} {l : List (Nat × Nat)}, Rising a n l → ∀ r ∈ l, a ≤ r.1 ∧ r.1 < r.2 ∧ r.2 ≤ n
  | a, r :: l, ⟨h1, h2, h3, h4⟩, q, hq => by
    rcases List.mem_cons.1 hq with rfl | hq
    · exact ⟨h1, h2, h3⟩
    · have := Rising.mem h4 q hq
      omega
theorem off_le (ps : List Bs) {i k : Nat} (h : i ≤ k) : off ps i ≤ off ps k := by
  unfold off
  have : (ps.take k).flatten = (ps.take i).flatten ++ ((ps.take k).drop i).flatten := by
    rw [← List.flatten_append]
    congr 1
    have := (List.take_append_drop i (ps.take k)).symm
    rwa [List.take_take, Nat.min_eq_left h] at this
  rw [this, List.length_append]
  omega
theorem off_max (ps : List Bs) (k : Nat) : off ps k ≤ ps.flatten.length := by
  unfold off
  have : ps.flatten = (ps.take k).flatten ++ (ps.drop k).flatten := by rw [← List.flatten_append, List.take_append_drop]
  rw [this, List.length_append]; omega
/-- the piece of text in a run -/
def word (ps : List Bs) (r : Nat × Nat) : Bs := ((ps.drop r.1).take (r.2 - r.1)).flatten
def findOf (ps : List Bs) (name : Bs) : List (Nat × Nat) := (runsOf ps).filter (fun r => word ps r == name)
end Go.Proofs.YtdkkfjcbdokdjaaDoor
