/- Replacing runs of pieces. Plain Lean. -/
import Derived.Test.YtdkkfjcbdokdjaaDoorM4
namespace Go.Proofs.YtdkkfjcbdokdjaaDoor
open Go
/-- from a code point on, the runs of a list replaced -/
def replTo (ps : List Bs) (by_ : Bs) : List (Nat × Nat) → Nat → Bs
  | [], a => (ps.drop a).flatten
  | r :: l, a => ((ps.drop a).take (r.1 - a)).flatten ++ by_ ++ replTo ps by_ l r.2
theorem drop_len (ps : List Bs) (a : Nat) : (ps.drop a).flatten.length ≤ ps.flatten.length := by
  have : ps.flatten = (ps.take a).flatten ++ (ps.drop a).flatten := by rw [← List.flatten_append, List.take_append_drop]
  rw [this, List.length_append]; omega
theorem part_len (ps : List Bs) (a i : Nat) : ((ps.drop a).take i).flatten.length ≤ ps.flatten.length := by
  have h := drop_len ps a
  have : (ps.drop a).flatten = ((ps.drop a).take i).flatten ++ ((ps.drop a).drop i).flatten := by rw [← List.flatten_append, List.take_append_drop]
  rw [this, List.length_append] at h; omega
/-- what has been written of the first runs -/
def replPre (ps : List Bs) (by_ : Bs) : List (Nat × Nat) → Nat → Bs
  | [], _ => []
  | r :: l, a => ((ps.drop a).take (r.1 - a)).flatten ++ by_ ++ replPre ps by_ l r.2
def lastTo : List (Nat × Nat) → Nat → Nat
  | [], a => a
  | r :: l, _ => lastTo l r.2
theorem lastTo_snoc : ∀ (l : List (Nat × Nat)) (r : Nat × Nat) (a : Nat), lastTo (l ++ [r]) a = r.2
  | [], _, _ => rfl
  | _ :: l, r, _ => lastTo_snoc l r _
theorem replPre_snoc (ps : List Bs) (by_ : Bs) : ∀ (l : List (Nat × Nat)) (r : Nat × Nat) (a : Nat), replPre ps by_ (l ++ [r]) a = replPre ps by_ l a ++ (((ps.drop (lastTo l a)).take (r.1 - lastTo l a)).flatten ++ by_)
  | [], r, a => by simp [replPre, lastTo]
  | q :: l, r, a => by
    show ((ps.drop a).take (q.1 - a)).flatten ++ by_ ++ replPre ps by_ (l ++ [r]) q.2 = _
    rw [replPre_snoc ps by_ l r q.2]
    simp only [replPre, lastTo, List.append_assoc]
theorem replTo_eq (ps : List Bs) (by_ : Bs) : ∀ (l : List (Nat × Nat)) (a : Nat), replTo ps by_ l a = replPre ps by_ l a ++ (ps.drop (lastTo l a)).flatten
  | [], a => by simp [replTo, replPre, lastTo]
  | q :: l, a => by
    show ((ps.drop a).take (q.1 - a)).flatten ++ by_ ++ replTo ps by_ l q.2 = _
    rw [replTo_eq ps by_ l q.2]
    simp only [replPre, lastTo, List.append_assoc]
theorem replPre_len (ps : List Bs) (by_ : Bs) : ∀ (l : List (Nat × Nat)) (a : Nat), (replPre ps by_ l a).length ≤ l.length * (ps.flatten.length + by_.length)
  | [], a => by simp [replPre]
  | q :: l, a => by
    have ih := replPre_len ps by_ l q.2
    have := part_len ps a (q.1 - a)
    simp only [replPre, List.length_append, List.length_cons]
    rw [Nat.add_mul, Nat.one_mul]
    omega
theorem lastTo_rising {n : Nat} : ∀ {a : Nat} {l : List (Nat × Nat)} {r : Nat × Nat} {m : List (Nat × Nat)}, Rising a n (l ++ r :: m) → lastTo l a ≤ r.1
  | a, [], r, m, h => h.1
  | a, q :: l, r, m, ⟨_, _, _, h⟩ => lastTo_rising (a := q.2) (l := l) (r := r) (m := m) h
theorem lastTo_le {n : Nat} : ∀ {a : Nat} {l : List (Nat × Nat)}, Rising a n l → a ≤ n → lastTo l a ≤ n
  | _, [], _, h => h
  | _, q :: l, ⟨_, _, h3, h4⟩, _ => lastTo_le (a := q.2) (l := l) h4 h3
end Go.Proofs.YtdkkfjcbdokdjaaDoor
