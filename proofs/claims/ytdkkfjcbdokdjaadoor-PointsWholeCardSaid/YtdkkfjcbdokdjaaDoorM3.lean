/- The rows of parts in a text, as the program's loop makes them. Plain Lean. -/
import Derived.Test.YtdkkfjcbdokdjaaDoorW1
import Derived.Test.YtdkkfjcbdokdjaaDoorM1
namespace Go.Proofs.YtdkkfjcbdokdjaaDoor
open Go
abbrev R4 := Nat × Nat × Nat × Nat
def partP (p : Bs) : Bool := partB ((Lib.decodeL p).1 : Nat)
/-- the rows from a place on: byte i, code point k; an open row began at byte f, code point a -/
def rowsGo : List Bs → Nat → Nat → Option (Nat × Nat) → List R4
  | [], _, _, none => []
  | [], i, k, some (f, a) => [(f, a, i, k)]
  | p :: ps, i, k, none => if partP p then rowsGo ps (i + p.length) (k + 1) (some (i, k)) else rowsGo ps (i + p.length) (k + 1) none
  | p :: ps, i, k, some (f, a) => if partP p then rowsGo ps (i + p.length) (k + 1) (some (f, a)) else (f, a, i, k) :: rowsGo ps (i + p.length) (k + 1) none
def rowsOf (ps : List Bs) : List R4 := rowsGo ps 0 0 none
def stRow : Option (Nat × Nat) → List R4
  | none => []
  | some (f, a) => [(f, a, 0, 0)]
def cell4 (r : R4) : List Value := [.int .i64 (r.1 : Nat), .int .i64 (r.2.1 : Nat), .int .i64 (r.2.2.1 : Nat), .int .i64 (r.2.2.2 : Nat)]
def cells4 (l : List R4) : List Value := l.flatMap cell4
theorem cells4_length (l : List R4) : (cells4 l).length = l.length * 4 := by
  induction l with
  | nil => rfl
  | cons r l ih =>
    show (cell4 r ++ cells4 l).length = _
    rw [List.length_append, ih, List.length_cons]
    show 4 + _ = _
    omega
theorem cells4_append (a b : List R4) : cells4 (a ++ b) = cells4 a ++ cells4 b := List.flatMap_append
theorem cells4_one (r : R4) : cells4 [r] = cell4 r := by simp [cells4]
theorem cells4_get (l : List R4) (k : Nat) (h : k < l.length) : (cells4 l)[k * 4]? = some (.int .i64 (l[k].1 : Nat)) ∧ (cells4 l)[k * 4 + 1]? = some (.int .i64 (l[k].2.1 : Nat)) ∧
    (cells4 l)[k * 4 + 2]? = some (.int .i64 (l[k].2.2.1 : Nat)) ∧ (cells4 l)[k * 4 + 3]? = some (.int .i64 (l[k].2.2.2 : Nat)) := by
  have e : l = l.take k ++ (l[k] :: l.drop (k + 1)) := by rw [← List.drop_eq_getElem_cons h, List.take_append_drop]
  have hl : (cells4 (l.take k)).length = k * 4 := by rw [cells4_length, List.length_take]; omega
  have ec : cells4 l = cells4 (l.take k) ++ (cell4 l[k] ++ cells4 (l.drop (k + 1))) := by
    conv => lhs; rw [e]
    rw [cells4_append]
    rfl
  have g : ∀ j, j < 4 → (cells4 l)[k * 4 + j]? = (cell4 l[k])[j]? := by
    intro j hj
    rw [ec, List.getElem?_append_right (by omega), hl, Nat.add_sub_cancel_left, List.getElem?_append_left (by simpa [cell4] using hj)]
  exact ⟨g 0 (by omega), g 1 (by omega), g 2 (by omega), g 3 (by omega)⟩
theorem cells4_one' (l : List R4) : ∀ u ∈ cells4 l, u.oneCell' = true := by
  intro u hu
  obtain ⟨r, _, h⟩ := List.mem_flatMap.1 hu
  simp only [cell4, List.mem_cons, List.mem_nil_iff, or_false] at h
  rcases h with rfl | rfl | rfl | rfl <;> rfl
theorem drop_cons (ps : List Bs) (k : Nat) (h : k < ps.length) : ps.drop k = ps[k] :: ps.drop (k + 1) := List.drop_eq_getElem_cons h
end Go.Proofs.YtdkkfjcbdokdjaaDoor
