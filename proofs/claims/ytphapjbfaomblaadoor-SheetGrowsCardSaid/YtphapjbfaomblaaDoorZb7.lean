/- Texts of this seat, one behind the other: SP, B, SA. -/
import Derived.Lib.Hide
import Derived.Test.YtphapjbfaomblaaDoorZb1
import Derived.Laws.StructEq
import Derived.Test.YtphapjbfaomblaaDoorZb6
import Derived.Test.YtphapjbfaomblaaDoorZb2
import Derived.Test.YtphapjbfaomblaaDoorZb3
/- A row of things each of which is seen or not: put, show, find, place; the same by blocks. Plain. -/
namespace Go.Proofs.YtphapjbfaomblaaDoor
section
variable {α : Type} [DecidableEq α]
abbrev Row (α : Type) := List (α × Bool)
def cntR (R : Row α) : Nat := R.countP (·.2)
def ixR (R : Row α) (x : α) : Nat := R.findIdx (fun p => decide (p.1 = x))
def namesR (R : Row α) : List α := R.map (·.1)
def seenR (R : Row α) : List Bool := R.map (·.2)
def putR (R : Row α) (k : Nat) (x : α) (b : Bool) : Row α := R.take k ++ (x, b) :: R.drop k
def showR (R : Row α) (x : α) (b : Bool) : Row α := R.set (ixR R x) (x, b)
def findR : Row α → Nat → Option α
  | [], _ => none
  | (x, true) :: _, 0 => some x
  | (_, true) :: R, k + 1 => findR R k
  | (_, false) :: R, k => findR R k
def listR (R : Row α) (b : Bool) : List α := namesR (R.filter (fun p => p.2 || !b))
omit [DecidableEq α] in
theorem names_len (R : Row α) : (namesR R).length = R.length := by simp [namesR]
omit [DecidableEq α] in
theorem seenR_len (R : Row α) : (seenR R).length = R.length := by simp [seenR]
omit [DecidableEq α] in
theorem cntR_le (R : Row α) : cntR R ≤ R.length := List.countP_le_length
omit [DecidableEq α] in
theorem cntR_app (R S : Row α) : cntR (R ++ S) = cntR R + cntR S := by simp [cntR]
omit [DecidableEq α] in
theorem cntR_snoc (R : Row α) (p : α × Bool) : cntR (R ++ [p]) = cntR R + p.2.toNat := by
  rw [cntR_app]
  cases h : p.2 <;> simp [cntR, h]
omit [DecidableEq α] in
theorem cntR_cons (p : α × Bool) (R : Row α) : cntR (p :: R) = p.2.toNat + cntR R := by
  cases h : p.2 <;> simp [cntR, h]; omega
omit [DecidableEq α] in
theorem cntR_put (R : Row α) (k : Nat) (x : α) (b : Bool) : cntR (putR R k x b) = cntR R + b.toNat := by
  unfold putR
  rw [cntR_app, cntR_cons]
  have : cntR R = cntR (R.take k) + cntR (R.drop k) := by rw [← cntR_app, List.take_append_drop]
  dsimp only
  omega
omit [DecidableEq α] in
theorem putR_len (R : Row α) (k : Nat) (x : α) (b : Bool) (h : k ≤ R.length) : (putR R k x b).length = R.length + 1 := by
  unfold putR
  simp only [List.length_append, List.length_take, List.length_cons, List.length_drop]
  omega
omit [DecidableEq α] in
theorem names_put (R : Row α) (k : Nat) (x : α) (b : Bool) : namesR (putR R k x b) = (namesR R).take k ++ x :: (namesR R).drop k := by simp [namesR, putR]
omit [DecidableEq α] in
theorem seen_put (R : Row α) (k : Nat) (x : α) (b : Bool) : seenR (putR R k x b) = (seenR R).take k ++ b :: (seenR R).drop k := by simp [seenR, putR]
omit [DecidableEq α] in
theorem names_app (R S : Row α) : namesR (R ++ S) = namesR R ++ namesR S := by simp [namesR]
omit [DecidableEq α] in
theorem mem_putR (R : Row α) (k : Nat) (x y : α) (b : Bool) : y ∈ namesR (putR R k x b) ↔ y = x ∨ y ∈ namesR R := by
  rw [names_put, List.mem_append, List.mem_cons]
  have : y ∈ namesR R ↔ y ∈ (namesR R).take k ∨ y ∈ (namesR R).drop k := by rw [← List.mem_append, List.take_append_drop]
  rw [this]
  constructor
  · rintro (h | h | h)
    · exact .inr (.inl h)
    · exact .inl h
    · exact .inr (.inr h)
  · rintro (h | h | h)
    · exact .inr (.inl h)
    · exact .inl h
    · exact .inr (.inr h)
omit [DecidableEq α] in
theorem nodup_put {R : Row α} {x : α} (k : Nat) (b : Bool) (h : (namesR R).Nodup) (hx : x ∉ namesR R) : (namesR (putR R k x b)).Nodup := by
  have hp : (namesR (putR R k x b)).Perm (x :: namesR R) := by
    rw [names_put]
    refine List.perm_middle.trans ?_
    rw [List.take_append_drop]
  exact hp.nodup_iff.2 (List.nodup_cons.2 ⟨hx, h⟩)
theorem ixR_le (R : Row α) (x : α) : ixR R x ≤ R.length := List.findIdx_le_length
theorem ixR_lt {R : Row α} {x : α} : ixR R x < R.length ↔ x ∈ namesR R := by
  unfold ixR namesR
  rw [List.findIdx_lt_length, List.mem_map]
  constructor
  · rintro ⟨p, hp, h⟩
    exact ⟨p, hp, by simpa using h⟩
  · rintro ⟨p, hp, h⟩
    exact ⟨p, hp, by simpa using h⟩
theorem ixR_get {R : Row α} {x : α} (h : ixR R x < R.length) : (R[ixR R x]).1 = x := by
  have := List.findIdx_getElem (p := fun p : α × Bool => decide (p.1 = x)) (xs := R) (w := h)
  exact of_decide_eq_true this
theorem ixR_before {R : Row α} {x : α} {i : Nat} (h : i < ixR R x) : (R[i]'(Nat.lt_of_lt_of_le h (ixR_le R x))).1 ≠ x := by
  have := List.not_of_lt_findIdx (p := fun p : α × Bool => decide (p.1 = x)) (xs := R) h
  simpa using this
theorem ixR_eq {R : Row α} {x : α} {i : Nat} (h : i < R.length) (hx : (R[i]).1 = x) (hb : ∀ j (hj : j < i), (R[j]'(Nat.lt_trans hj h)).1 ≠ x) : ixR R x = i := by
  rcases Nat.lt_trichotomy (ixR R x) i with h1 | h1 | h1
  · exact absurd (ixR_get (Nat.lt_trans h1 h)) (hb _ h1)
  · exact h1
  · exact absurd hx (ixR_before h1)
theorem ixR_nodup {R : Row α} (h : (namesR R).Nodup) {i : Nat} (hi : i < R.length) : ixR R (R[i]).1 = i := by
  refine ixR_eq hi rfl fun j hj e => ?_
  have := List.pairwise_iff_getElem.1 h j i (by rw [names_len]; omega) (by rw [names_len]; exact hi) hj
  exact this (by simpa [namesR] using e)
theorem ixR_app_left {R S : Row α} {x : α} (h : x ∈ namesR R) : ixR (R ++ S) x = ixR R x := by
  have hl := ixR_lt.2 h
  refine ixR_eq (by rw [List.length_append]; omega) ?_ fun j hj => ?_
  · rw [List.getElem_append_left hl]; exact ixR_get hl
  · rw [List.getElem_append_left (Nat.lt_trans hj hl)]; exact ixR_before hj
theorem ixR_app_right {R S : Row α} {x : α} (h : x ∉ namesR R) (hs : x ∈ namesR S) : ixR (R ++ S) x = R.length + ixR S x := by
  have hl := ixR_lt.2 hs
  refine ixR_eq (by rw [List.length_append]; omega) ?_ fun j hj => ?_
  · rw [List.getElem_append_right (by omega)]
    simp only [Nat.add_sub_cancel_left]
    exact ixR_get hl
  · by_cases hj' : j < R.length
    · rw [List.getElem_append_left hj']
      intro e
      exact h (e ▸ List.mem_map.2 ⟨R[j], List.getElem_mem hj', rfl⟩)
    · rw [List.getElem_append_right (by omega)]
      exact ixR_before (by omega)
theorem showR_len (R : Row α) (x : α) (b : Bool) : (showR R x b).length = R.length := by simp [showR]
theorem showR_names {R : Row α} {x : α} (b : Bool) (h : x ∈ namesR R) : namesR (showR R x b) = namesR R := by
  have hl := ixR_lt.2 h
  unfold namesR showR
  rw [List.map_set]
  have := ixR_get hl
  refine List.ext_getElem (by simp) fun i h1 h2 => ?_
  rw [List.getElem_set]
  split
  · rename_i e; subst e; simpa using this.symm
  · rfl
theorem showR_seen (R : Row α) (x : α) (b : Bool) : seenR (showR R x b) = (seenR R).set (ixR R x) b := by
  unfold seenR showR
  rw [List.map_set]
omit [DecidableEq α] in
theorem cntR_set {R : Row α} {i : Nat} (h : i < R.length) (x : α) (b : Bool) : cntR (R.set i (x, b)) + (R[i]).2.toNat = cntR R + b.toNat := by
  have h1 : R = R.take i ++ R[i] :: R.drop (i + 1) := by rw [List.getElem_cons_drop, List.take_append_drop]
  have h2 : R.set i (x, b) = R.take i ++ (x, b) :: R.drop (i + 1) := by rw [List.set_eq_take_append_cons_drop, if_pos h]
  have h3 : cntR R = cntR (R.take i) + ((R[i]).2.toNat + cntR (R.drop (i + 1))) := by rw [← cntR_cons, ← cntR_app, ← h1]
  rw [h2, cntR_app, cntR_cons]
  dsimp only
  omega
theorem show_app_left {R S : Row α} {x : α} (b : Bool) (h : x ∈ namesR R) : showR (R ++ S) x b = showR R x b ++ S := by
  unfold showR
  rw [ixR_app_left h, List.set_append, if_pos (ixR_lt.2 h)]
theorem show_app_right {R S : Row α} {x : α} (b : Bool) (h : x ∉ namesR R) (hs : x ∈ namesR S) : showR (R ++ S) x b = R ++ showR S x b := by
  unfold showR
  rw [ixR_app_right h hs, List.set_append, if_neg (by omega), Nat.add_sub_cancel_left]
theorem show_mid {P B S : Row α} {x : α} (b : Bool) (hp : x ∉ namesR P) (hb : x ∈ namesR B) : showR (P ++ (B ++ S)) x b = P ++ (showR B x b ++ S) := by
  rw [show_app_right b hp (by rw [names_app]; exact List.mem_append_left _ hb), show_app_left b hb]
omit [DecidableEq α] in
theorem put_mid (P B S : Row α) (k : Nat) (x : α) (b : Bool) (hk : k ≤ B.length) : putR (P ++ (B ++ S)) (P.length + k) x b = P ++ (putR B k x b ++ S) := by
  unfold putR
  rw [List.take_append, List.drop_append]
  simp only [Nat.add_sub_cancel_left, List.take_of_length_le (Nat.le_add_right _ _), List.drop_of_length_le (Nat.le_add_right P.length k)]
  rw [List.take_append_of_le_length hk, List.drop_append_of_le_length hk]
  simp
/-! found -/
omit [DecidableEq α] in
theorem findR_app_lt : ∀ (R S : Row α) (k : Nat), k < cntR R → findR (R ++ S) k = findR R k
  | [], _, k, h => by simp [cntR] at h
  | (x, true) :: R, S, 0, _ => rfl
  | (x, true) :: R, S, k + 1, h => by
    rw [cntR_cons] at h
    simp only [Bool.toNat_true] at h
    exact findR_app_lt R S k (by omega)
  | (x, false) :: R, S, k, h => by
    rw [cntR_cons] at h
    simp only [Bool.toNat_false] at h
    show findR (R ++ S) k = findR R k
    exact findR_app_lt R S k (by omega)
omit [DecidableEq α] in
theorem findR_app_ge : ∀ (R S : Row α) (k : Nat), cntR R ≤ k → findR (R ++ S) k = findR S (k - cntR R)
  | [], _, k, _ => rfl
  | (x, true) :: R, S, 0, h => by
    rw [cntR_cons] at h
    simp only [Bool.toNat_true] at h
    omega
  | (x, true) :: R, S, k + 1, h => by
    rw [cntR_cons] at h ⊢
    simp only [Bool.toNat_true] at h ⊢
    show findR (R ++ S) k = _
    rw [findR_app_ge R S k (by omega)]
    congr 1
    omega
  | (x, false) :: R, S, k, h => by
    rw [cntR_cons] at h ⊢
    simp only [Bool.toNat_false, Nat.zero_add] at h ⊢
    show findR (R ++ S) k = _
    exact findR_app_ge R S k h
omit [DecidableEq α] in
theorem findR_none (R : Row α) (k : Nat) (h : cntR R ≤ k) : findR R k = none := by
  have := findR_app_ge R [] k h
  rw [List.append_nil] at this
  rw [this]; rfl
omit [DecidableEq α] in
theorem findR_some : ∀ (R : Row α) (k : Nat), k < cntR R → ∃ x, findR R k = some x ∧ x ∈ namesR R
  | [], k, h => by simp [cntR] at h
  | (x, true) :: R, 0, _ => ⟨x, rfl, by simp [namesR]⟩
  | (x, true) :: R, k + 1, h => by
    rw [cntR_cons] at h
    simp only [Bool.toNat_true] at h
    obtain ⟨y, h1, h2⟩ := findR_some R k (by omega)
    exact ⟨y, h1, by rw [namesR, List.map_cons]; exact List.mem_cons_of_mem _ h2⟩
  | (x, false) :: R, k, h => by
    rw [cntR_cons] at h
    simp only [Bool.toNat_false, Nat.zero_add] at h
    obtain ⟨y, h1, h2⟩ := findR_some R k h
    exact ⟨y, h1, by rw [namesR, List.map_cons]; exact List.mem_cons_of_mem _ h2⟩
omit [DecidableEq α] in
/-- the one that stands at a place, if it is seen, is found by what is seen ahead -/
theorem findR_at {R : Row α} {i : Nat} (hi : i < R.length) (hs : (R[i]).2 = true) : findR R (cntR (R.take i)) = some (R[i]).1 := by
  have h1 : R = R.take i ++ R[i] :: R.drop (i + 1) := by rw [List.getElem_cons_drop, List.take_append_drop]
  obtain ⟨p, hp⟩ : ∃ p, R[i] = p := ⟨_, rfl⟩
  rw [hp] at h1 hs ⊢
  have h2 := findR_app_ge (R.take i) (p :: R.drop (i + 1)) (cntR (R.take i)) (Nat.le_refl _)
  rw [← h1, Nat.sub_self] at h2
  rw [h2]
  obtain ⟨x, b⟩ := p
  dsimp only at hs
  subst hs
  rfl
omit [DecidableEq α] in
theorem cntR_take_succ {R : Row α} {i : Nat} (hi : i < R.length) : cntR (R.take (i + 1)) = cntR (R.take i) + (R[i]).2.toNat := by
  rw [List.take_succ_eq_append_getElem hi, cntR_snoc]
omit [DecidableEq α] in
theorem cntR_take_le (R : Row α) (i : Nat) : cntR (R.take i) ≤ cntR R := by
  have : cntR R = cntR (R.take i) + cntR (R.drop i) := by rw [← cntR_app, List.take_append_drop]
  omega
omit [DecidableEq α] in
theorem listR_false (R : Row α) : listR R false = namesR R := by
  unfold listR
  congr 1
  exact List.filter_eq_self.2 (fun p _ => by simp)
omit [DecidableEq α] in
theorem listR_app (R S : Row α) (b : Bool) : listR (R ++ S) b = listR R b ++ listR S b := by simp [listR, namesR]
omit [DecidableEq α] in
theorem listR_true_len (R : Row α) : (listR R true).length = cntR R := by
  simp only [listR, namesR, List.length_map, cntR, List.countP_eq_length_filter]
  congr 1
  simp
omit [DecidableEq α] in
/-- the next of the seen ones is the one at a place, just if it is seen -/
theorem listR_next {R : Row α} (hn : (namesR R).Nodup) {i : Nat} (hi : i < R.length) (hk : cntR (R.take i) < (listR R true).length) : (listR R true)[cntR (R.take i)] = (R[i]).1 ↔ (R[i]).2 = true := by
  have h1 : R = R.take i ++ R[i] :: R.drop (i + 1) := by rw [List.getElem_cons_drop, List.take_append_drop]
  have hl : listR R true = listR (R.take i) true ++ listR (R[i] :: R.drop (i + 1)) true := by rw [← listR_app, ← h1]
  have hg : (listR R true)[cntR (R.take i)]? = (listR (R[i] :: R.drop (i + 1)) true)[0]? := by
    rw [hl, List.getElem?_append_right (by rw [listR_true_len]; exact Nat.le_refl _), listR_true_len, Nat.sub_self]
  rw [List.getElem?_eq_getElem hk] at hg
  obtain ⟨p, hp⟩ : ∃ p, R[i] = p := ⟨_, rfl⟩
  have hnp : p.1 ∉ namesR (R.drop (i + 1)) := by
    rw [h1, hp, names_app] at hn
    have := (List.nodup_append.1 hn).2.1
    rw [namesR, List.map_cons, List.nodup_cons] at this
    exact this.1
  rw [hp] at hg ⊢
  obtain ⟨x, b⟩ := p
  cases b
  · refine ⟨fun e => ?_, fun e => by cases e⟩
    exfalso
    rw [e] at hg
    have hm : x ∈ listR (R.drop (i + 1)) true := List.mem_of_getElem? (i := 0) (by rw [hg]; simp [listR, namesR])
    have : x ∈ namesR (R.drop (i + 1)) := by
      unfold listR namesR at hm
      obtain ⟨q, hq, rfl⟩ := List.mem_map.1 hm
      exact List.mem_map.2 ⟨q, (List.mem_filter.1 hq).1, rfl⟩
    exact hnp this
  · refine ⟨fun _ => rfl, fun _ => ?_⟩
    have : (listR ((x, true) :: List.drop (i + 1) R) true)[0]? = some x := by simp [listR, namesR]
    rw [this] at hg
    exact Option.some.inj hg
end
end Go.Proofs.YtphapjbfaomblaaDoor
/- Lists of stamps, ids and dots, searched and compared, as the document's functions do it. -/
namespace Go.Proofs.YtphapjbfaomblaaDoor
open Go Go.RowKit
/-! structs held against one another -/
def eq2 (a b a' b' : Int) : Bool := a == a' && b == b'
def eq3 (a b c a' b' c' : Int) : Bool := a == a' && b == b' && c == c'
theorem str24 : Tryd.prog.underlying 24 = some (.struct (Tryd.prog.fieldsOf 24)) := by kernel_rfl
theorem str26 : Tryd.prog.underlying 26 = some (.struct (Tryd.prog.fieldsOf 26)) := by kernel_rfl
theorem st24 : Tryd.prog.stoodInHeld 24 = false := by kernel_rfl
theorem st26 : Tryd.prog.stoodInHeld 26 = false := by kernel_rfl
theorem gd24 : Tryd.prog.eqGuardType Tryd.prog.depth 24 = false := by kernel_rfl
theorem gd26 : Tryd.prog.eqGuardType Tryd.prog.depth 26 = false := by kernel_rfl
theorem eqIn24 (d : Nat) (a b a' b' : Int) (w : World) : (Op.equalIn (d + 2) 24 (.agg #[.int .i64 a, .int .i64 b]) (.agg #[.int .i64 a', .int .i64 b'])).run Tryd.prog w = .ok (eq2 a b a' b') w := by
  have u3 := Tryd.underlying3
  have a3 := Tryd.isAgg3
  have z3 := Tryd.sizeOf3
  rw [run_equalIn_agg w (d + 1) 24 _ _ str24 st24]
  simp only [Program.fieldsOf, Tryd.underlying24]
  go_simp
  unfold eq2
  by_cases h1 : a = a' <;> by_cases h2 : b = b' <;> simp [h1, h2]
theorem eql24 (a b a' b' : Int) (w : World) : (binOp .eql 24 (.agg #[.int .i64 a, .int .i64 b]) (.agg #[.int .i64 a', .int .i64 b'])).run Tryd.prog w = .ok (.bool (eq2 a b a' b')) w := by
  rw [run_eql_struct, show (10000 : Nat) = 9998 + 2 from rfl, eqIn24]; rfl
theorem neq24 (a b a' b' : Int) (w : World) : (binOp .neq 24 (.agg #[.int .i64 a, .int .i64 b]) (.agg #[.int .i64 a', .int .i64 b'])).run Tryd.prog w = .ok (.bool (!eq2 a b a' b')) w := by
  rw [run_neq_struct, show (10000 : Nat) = 9998 + 2 from rfl, eqIn24]; rfl
theorem eqIn26 (d : Nat) (a b c a' b' c' : Int) (w : World) : (Op.equalIn (d + 3) 26 (.agg #[.int .i64 a, .int .i64 b, .int .i64 c]) (.agg #[.int .i64 a', .int .i64 b', .int .i64 c'])).run Tryd.prog w = .ok (eq3 a b c a' b' c') w := by
  have u3 := Tryd.underlying3
  have a3 := Tryd.isAgg3
  have z3 := Tryd.sizeOf3
  have a24 := Tryd.isAgg24
  have z24 := Tryd.sizeOf24
  have hS := fun a b a' b' => eqIn24 d a b a' b' w
  rw [run_equalIn_agg w (d + 2) 26 _ _ str26 st26]
  simp only [Program.fieldsOf, Tryd.underlying26]
  go_simp
  unfold eq3
  by_cases h1 : a = a' <;> by_cases h2 : b = b' <;> by_cases h3 : c = c' <;> simp [h1, h2, h3]
theorem eql26 (a b c a' b' c' : Int) (w : World) : (binOp .eql 26 (.agg #[.int .i64 a, .int .i64 b, .int .i64 c]) (.agg #[.int .i64 a', .int .i64 b', .int .i64 c'])).run Tryd.prog w = .ok (.bool (eq3 a b c a' b' c')) w := by
  rw [run_eql_struct, show (10000 : Nat) = 9997 + 3 from rfl, eqIn26]; rfl
theorem neq26 (a b c a' b' c' : Int) (w : World) : (binOp .neq 26 (.agg #[.int .i64 a, .int .i64 b, .int .i64 c]) (.agg #[.int .i64 a', .int .i64 b', .int .i64 c'])).run Tryd.prog w = .ok (.bool (!eq3 a b c a' b' c')) w := by
  rw [run_neq_struct, show (10000 : Nat) = 9997 + 3 from rfl, eqIn26]; rfl
theorem eq2_iff (x y : Stamp) : eq2 x.T x.R y.T y.R = decide (x = y) := by
  obtain ⟨a, b, _, _⟩ := x
  obtain ⟨a', b', _, _⟩ := y
  unfold eq2
  rw [Bool.eq_iff_iff]
  simp [Stamp.mk.injEq]
theorem eq3_iff (x y : Id) : eq3 x.s.T x.s.R x.I y.s.T y.s.R y.I = decide (x = y) := by
  obtain ⟨⟨a, b, _, _⟩, c, _⟩ := x
  obtain ⟨⟨a', b', _, _⟩, c', _⟩ := y
  unfold eq3
  rw [Bool.eq_iff_iff]
  simp [Stamp.mk.injEq, Id.mk.injEq]
/-! rows of structs -/
theorem flat_len {α : Type} (enc : α → List Value) (k : Nat) (hk : ∀ x, (enc x).length = k) : ∀ L : List α, (L.flatMap enc).length = L.length * k
  | [] => by simp
  | a :: L => by rw [List.flatMap_cons, List.length_append, flat_len enc k hk L, hk, List.length_cons, Nat.add_mul]; omega
theorem flat_at {α : Type} (enc : α → List Value) (k : Nat) (hk : ∀ x, (enc x).length = k) : ∀ (L : List α) (i : Nat) (h : i < L.length) (j : Nat), j < k → (L.flatMap enc)[i * k + j]? = (enc L[i])[j]?
  | [], i, h, _, _ => absurd h (by simp)
  | a :: L, 0, _, j, hj => by
    rw [List.flatMap_cons, Nat.zero_mul, Nat.zero_add, List.getElem?_append_left (by rw [hk]; exact hj)]
    rfl
  | a :: L, i + 1, h, j, hj => by
    rw [List.flatMap_cons, List.getElem?_append_right (by rw [hk, Nat.add_mul]; omega), hk, show (i + 1) * k + j - k = i * k + j by rw [Nat.add_mul]; omega]
    exact flat_at enc k hk L i (by simpa using h) j hj
theorem len_of {α : Type} (enc : α → List Value) (k : Nat) (hk : ∀ x, (enc x).length = k) (h0 : 0 < k) {L : List α} {n : Nat} (h : (L.flatMap enc).length = n * k) : L.length = n := by
  rw [flat_len enc k hk] at h
  exact Nat.eq_of_mul_eq_mul_right h0 h
theorem rd_at {α : Type} (enc : α → List Value) (k : Nat) (hk : ∀ x, (enc x).length = k) (h0 : 0 < k) {L : List α} {w : World} {B c n : Nat} {A : Option Addr} (h : Rd w B k (.slice A n c) n (L.flatMap enc)) {i : Nat} (hi : i < L.length) :
    ∃ b o, A = some ⟨b, o, none⟩ ∧ b < B ∧ ∀ j u, (enc L[i])[j]? = some u → w.cell? ⟨b, o + i * k + j, none⟩ = some u := by
  have hn : 0 < n := by
    have := h.1
    rw [flat_len enc k hk] at this
    have := Nat.eq_of_mul_eq_mul_right h0 this
    omega
  obtain ⟨b, o, e, hb, hc⟩ := h.cells hn
  refine ⟨b, o, e, hb, fun j u hu => ?_⟩
  have hj : j < k := by rw [← hk L[i]]; exact (List.getElem?_eq_some_iff.1 hu).1
  rw [Nat.add_assoc]
  exact hc _ u (by rw [flat_at enc k hk L i hi j hj]; exact hu)
theorem not_take {α : Type} {L : List α} {x : α} {k : Nat} (hlt : k < L.length) (hno : x ∉ L.take k) (hx : ¬ L[k] = x) : x ∉ L.take (k + 1) := by
  rw [List.take_succ_eq_append_getElem hlt, List.mem_append]
  rintro (h | h)
  · exact hno h
  · exact hx (List.mem_singleton.1 h).symm
theorem same_take {α : Type} {L M : List α} {k : Nat} (hlt : k < L.length) (hlt' : k < M.length) (hno : L.take k = M.take k) (hx : L[k] = M[k]) : L.take (k + 1) = M.take (k + 1) := by
  rw [List.take_succ_eq_append_getElem hlt, List.take_succ_eq_append_getElem hlt', hno, hx]
def HasRel {α : Type} (L : List α) (x : α) (W0 : World) (i : Value) (wr : World) : Prop := ∃ k : Nat, k ≤ L.length ∧ i = .int .i64 k ∧ x ∉ L.take k ∧ ∃ q, wr = W0.drewN q
def SameRel {α : Type} (L M : List α) (W0 : World) (i : Value) (wr : World) : Prop := ∃ k : Nat, k ≤ L.length ∧ i = .int .i64 k ∧ L.take k = M.take k ∧ ∃ q, wr = W0.drewN q
set_option maxHeartbeats 1000000 in
theorem hasStamp_any (L : List Stamp) (x : Stamp) (A : Option Addr) (n c B : Nat) (w : World) (hR : Rd w B 2 (.slice A n c) n (L.flatMap stC)) (hB : B ≤ w.heap.size) :
    Calls Tryd.prog 19 #[.slice A n c, stV x] w fun e w' => e = .returned (.bool (decide (x ∈ L))) ∧ Grows w w' := by
  obtain ⟨_, hnc, hcm⟩ := hR.len
  unfold maxLen at hcm
  obtain rfl := len_of stC 2 (fun _ => rfl) (by decide) hR.1
  have HR := Lib.hid hR
  clear hR
  unfold stV
  go_enter Tryd.func19, Tryd.ntmps19
  go_wp2
  obtain ⟨W0, hW0⟩ : ∃ W, w.alloc (.cells #[.int .i64 x.T, .int .i64 x.R] 24) = W := ⟨_, rfl⟩
  have hg : Grows w W0 := by rw [← hW0]; exact (Grows.refl w).alloc _
  have hb1 : W0.heap[w.heap.size]? = some (.cells #[.int .i64 x.T, .int .i64 x.R] 24 (0, 0)) := by rw [← hW0]; exact heap_alloc_new w _
  rw [hW0]
  have c0 : W0.cell? ⟨w.heap.size, 0, none⟩ = some (.int .i64 x.T) := cell_of_row _ _ 0 _ _ _ hb1
  have c1 : W0.cell? ⟨w.heap.size, 1, none⟩ = some (.int .i64 x.R) := cell_of_row _ _ 1 _ _ _ hb1
  have HR2 := Lib.hid (HR.out.below' hg.below hB)
  clear hW0 hb1 HR
  go_loopw [5] (fun i wr => HasRel L x W0 i wr) (fun i _ => L.length - (intOf i).toNat)
  case atStart => exact ⟨0, Nat.zero_le _, rfl, by simp, 0, rfl⟩
  case round =>
    obtain ⟨k, hk, rfl, hno, q, rfl⟩ := hrel
    by_cases hlt : k < L.length
    · obtain ⟨b, o, rfl, hB', hcell⟩ := rd_at stC 2 (fun _ => rfl) (by decide) HR2.out hlt
      have d0 : W0.cell? ⟨b, o + k * 2, none⟩ = some (.int .i64 L[k].T) := hcell 0 _ rfl
      have d1 : W0.cell? ⟨b, o + k * 2 + 1, none⟩ = some (.int .i64 L[k].R) := hcell 1 _ rfl
      clear hcell
      have hq := eql24
      have hgd := gd24
      have hE := eq2_iff L[k] x
      by_cases hx : L[k] = x
      · rw [decide_eq_true hx] at hE
        have HX := Lib.hid (show decide (x ∈ L) = true from decide_eq_true (hx ▸ List.getElem_mem hlt))
        clear hx hno
        go_wp2
        go_quiet (fail)
        go_wp2
        go_ret
        exact ⟨ret_b HX.out.symm, (hg.drewN q).drewN nq⟩
      · rw [decide_eq_false hx] at hE
        have HX := Lib.hid (not_take hlt hno hx)
        clear hx hno
        go_wp2
        go_quiet (fail)
        go_wp2
        go_roundw
        case rel => exact ⟨k + 1, by omega, by go_num, HX.out, q + nq, rfl⟩
        case measure => simp [intOf]; omega
    · have HX := Lib.hid (show decide (x ∈ L) = false from decide_eq_false (by rw [List.take_of_length_le (by omega)] at hno; exact hno))
      clear hno
      go_wp2
      go_ret
      exact ⟨ret_b HX.out.symm, hg.drewN q⟩
set_option maxHeartbeats 1000000 in
theorem hasId_any (L : List Id) (x : Id) (A : Option Addr) (n c B : Nat) (w : World) (hR : Rd w B 3 (.slice A n c) n (L.flatMap idC)) (hB : B ≤ w.heap.size) :
    Calls Tryd.prog 20 #[.slice A n c, idV x] w fun e w' => e = .returned (.bool (decide (x ∈ L))) ∧ Grows w w' := by
  obtain ⟨_, hnc, hcm⟩ := hR.len
  unfold maxLen at hcm
  obtain rfl := len_of idC 3 (fun _ => rfl) (by decide) hR.1
  have HR := Lib.hid hR
  clear hR
  unfold idV
  go_enter Tryd.func20, Tryd.ntmps20
  go_wp2
  obtain ⟨W0, hW0⟩ : ∃ W, w.alloc (.cells #[.int .i64 x.s.T, .int .i64 x.s.R, .int .i64 x.I] 26) = W := ⟨_, rfl⟩
  have hg : Grows w W0 := by rw [← hW0]; exact (Grows.refl w).alloc _
  have hb1 : W0.heap[w.heap.size]? = some (.cells #[.int .i64 x.s.T, .int .i64 x.s.R, .int .i64 x.I] 26 (0, 0)) := by rw [← hW0]; exact heap_alloc_new w _
  rw [hW0]
  have c0 : W0.cell? ⟨w.heap.size, 0, none⟩ = some (.int .i64 x.s.T) := cell_of_row _ _ 0 _ _ _ hb1
  have c1 : W0.cell? ⟨w.heap.size, 1, none⟩ = some (.int .i64 x.s.R) := cell_of_row _ _ 1 _ _ _ hb1
  have c2 : W0.cell? ⟨w.heap.size, 2, none⟩ = some (.int .i64 x.I) := cell_of_row _ _ 2 _ _ _ hb1
  have HR2 := Lib.hid (HR.out.below' hg.below hB)
  clear hW0 hb1 HR
  go_loopw [5] (fun i wr => HasRel L x W0 i wr) (fun i _ => L.length - (intOf i).toNat)
  case atStart => exact ⟨0, Nat.zero_le _, rfl, by simp, 0, rfl⟩
  case round =>
    obtain ⟨k, hk, rfl, hno, q, rfl⟩ := hrel
    by_cases hlt : k < L.length
    · obtain ⟨b, o, rfl, hB', hcell⟩ := rd_at idC 3 (fun _ => rfl) (by decide) HR2.out hlt
      have d0 : W0.cell? ⟨b, o + k * 3, none⟩ = some (.int .i64 L[k].s.T) := hcell 0 _ rfl
      have d1 : W0.cell? ⟨b, o + k * 3 + 1, none⟩ = some (.int .i64 L[k].s.R) := hcell 1 _ rfl
      have d2 : W0.cell? ⟨b, o + k * 3 + 2, none⟩ = some (.int .i64 L[k].I) := hcell 2 _ rfl
      clear hcell
      have hq := eql26
      have hgd := gd26
      have hE := eq3_iff L[k] x
      by_cases hx : L[k] = x
      · rw [decide_eq_true hx] at hE
        have HX := Lib.hid (show decide (x ∈ L) = true from decide_eq_true (hx ▸ List.getElem_mem hlt))
        clear hx hno
        go_wp2
        go_quiet (fail)
        go_wp2
        go_ret
        exact ⟨ret_b HX.out.symm, (hg.drewN q).drewN nq⟩
      · rw [decide_eq_false hx] at hE
        have HX := Lib.hid (not_take hlt hno hx)
        clear hx hno
        go_wp2
        go_quiet (fail)
        go_wp2
        go_roundw
        case rel => exact ⟨k + 1, by omega, by go_num, HX.out, q + nq, rfl⟩
        case measure => simp [intOf]; omega
    · have HX := Lib.hid (show decide (x ∈ L) = false from decide_eq_false (by rw [List.take_of_length_le (by omega)] at hno; exact hno))
      clear hno
      go_wp2
      go_ret
      exact ⟨ret_b HX.out.symm, hg.drewN q⟩
set_option maxHeartbeats 1000000 in
theorem sameId_any (L M : List Id) (A A' : Option Addr) (n c n' c' B : Nat) (w : World) (hR : Rd w B 3 (.slice A n c) n (L.flatMap idC)) (hR' : Rd w B 3 (.slice A' n' c') n' (M.flatMap idC)) :
    Calls Tryd.prog 16 #[.slice A n c, .slice A' n' c'] w fun e w' => e = .returned (.bool (decide (L = M))) ∧ Grows w w' := by
  obtain ⟨_, hnc, hcm⟩ := hR.len
  obtain ⟨_, hnc', hcm'⟩ := hR'.len
  unfold maxLen at hcm hcm'
  obtain rfl := len_of idC 3 (fun _ => rfl) (by decide) hR.1
  obtain rfl := len_of idC 3 (fun _ => rfl) (by decide) hR'.1
  have HR := Lib.hid hR
  have HR' := Lib.hid hR'
  clear hR hR'
  by_cases hl : L.length = M.length
  · have hl' : ((L.length : Int) != (M.length : Int)) = false := by simp [hl]
    have HL := Lib.hid hl
    clear hl
    go_enter Tryd.func16, Tryd.ntmps16
    go_wp2
    go_loopw [5] (fun i wr => SameRel L M w i wr) (fun i _ => L.length - (intOf i).toNat)
    case atStart => exact ⟨0, Nat.zero_le _, rfl, rfl, 0, rfl⟩
    case round =>
      obtain ⟨k, hk, rfl, hno, q, rfl⟩ := hrel
      by_cases hlt : k < L.length
      · have hlt' : k < M.length := by have := HL.out; omega
        obtain ⟨b, o, rfl, hB', hcell⟩ := rd_at idC 3 (fun _ => rfl) (by decide) HR.out hlt
        obtain ⟨b', o', rfl, hB2, hcell'⟩ := rd_at idC 3 (fun _ => rfl) (by decide) HR'.out hlt'
        have d0 : w.cell? ⟨b, o + k * 3, none⟩ = some (.int .i64 L[k].s.T) := hcell 0 _ rfl
        have d1 : w.cell? ⟨b, o + k * 3 + 1, none⟩ = some (.int .i64 L[k].s.R) := hcell 1 _ rfl
        have d2 : w.cell? ⟨b, o + k * 3 + 2, none⟩ = some (.int .i64 L[k].I) := hcell 2 _ rfl
        have e0 : w.cell? ⟨b', o' + k * 3, none⟩ = some (.int .i64 M[k].s.T) := hcell' 0 _ rfl
        have e1 : w.cell? ⟨b', o' + k * 3 + 1, none⟩ = some (.int .i64 M[k].s.R) := hcell' 1 _ rfl
        have e2 : w.cell? ⟨b', o' + k * 3 + 2, none⟩ = some (.int .i64 M[k].I) := hcell' 2 _ rfl
        clear hcell hcell'
        have hq := neq26
        have hgd := gd26
        have hE := eq3_iff L[k] M[k]
        by_cases hx : L[k] = M[k]
        · rw [decide_eq_true hx] at hE
          have HX := Lib.hid (same_take hlt hlt' hno hx)
          clear hx hno
          go_wp2
          go_quiet (fail)
          go_wp2
          go_roundw
          case rel => exact ⟨k + 1, by omega, by go_num, HX.out, q + nq, rfl⟩
          case measure => simp [intOf]; omega
        · rw [decide_eq_false hx] at hE
          have HX := Lib.hid (show decide (L = M) = false from decide_eq_false (by rintro rfl; exact hx rfl))
          clear hx hno
          go_wp2
          go_quiet (fail)
          go_wp2
          go_ret
          exact ⟨ret_b HX.out.symm, ((Grows.refl w).drewN q).drewN nq⟩
      · have HX := Lib.hid (show decide (L = M) = true from decide_eq_true (by rw [List.take_of_length_le (by omega), List.take_of_length_le (by have := HL.out; omega)] at hno; exact hno))
        clear hno
        go_wp2
        go_ret
        exact ⟨ret_b HX.out.symm, (Grows.refl w).drewN q⟩
  · have hl' : ((L.length : Int) != (M.length : Int)) = true := by simp; omega
    have HX := Lib.hid (show decide (L = M) = false from decide_eq_false (by rintro rfl; exact hl rfl))
    clear hl
    go_enter Tryd.func16, Tryd.ntmps16
    go_wp2
    go_ret
    exact ⟨ret_b HX.out.symm, Grows.refl w⟩
end Go.Proofs.YtphapjbfaomblaaDoor
/- A shelf in memory: its blocks, their rows, its map; what a write to one of them leaves. -/
namespace Go.Proofs.YtphapjbfaomblaaDoor
open Go Go.RowKit Go.Maps
/-! blocks of unlike kinds are unlike -/
def kindOf (w : World) (k : Nat) : Option (Option TypeId) := match w.heap[k]? with
  | some (.cells _ t _) => some (some t)
  | some _ => some none
  | none => none
theorem kind_cell {w : World} {k : Nat} {cs : Array Value} {t : TypeId} {fr : Nat × Nat} (h : w.heap[k]? = some (.cells cs t fr)) : kindOf w k = some (some t) := by unfold kindOf; rw [h]
theorem kind_row {w : World} {base : Nat} {e : TypeId} {K n : Nat} {v : Value} {xs : List Value} (h : w.ownsRow base e K v n xs) {g : Nat} (hg : v.ownBlock = some g) : kindOf w g = some (some e) := by
  rcases h.2 with ⟨rfl, _⟩ | ⟨g', cap, cur, rfl, _, hh, _⟩
  · cases hg
  · cases hg
    exact kind_cell hh
theorem kind_map {H : Type} {P : Program} {w : World} {k : TypeId} {R : Value → Option (DataW H × List MemPlace)} {m n : Nat} {D : DataW H} (h : w.ownsMap P k R m n D) : kindOf w m = some none := by
  obtain ⟨es, clock, h1, _⟩ := h
  unfold kindOf
  rw [h1]
theorem ne_kind {w : World} {a b : Nat} {x y : Option (Option TypeId)} (h1 : kindOf w a = x) (h2 : kindOf w b = y) (hne : x ≠ y) : a ≠ b := fun e => hne (by rw [← h1, ← h2, e])
theorem kind_lt {w : World} {k : Nat} {x : Option TypeId} (h : kindOf w k = some x) : k < w.heap.size := by
  unfold kindOf at h
  cases e : w.heap[k]? with
  | none => rw [e] at h; cases h
  | some o => exact (Array.getElem?_eq_some_iff.1 e).1
def ApartS (v1 v2 : Value) : Prop := ∀ g, v1.ownBlock = some g → v2.ownBlock ≠ some g
theorem ApartS.symm {v1 v2 : Value} (h : ApartS v1 v2) : ApartS v2 v1 := fun g h1 h2 => h g h2 h1
/-- the same block as ahead, or a new one -/
def SameOrNew (w : World) (v v' : Value) : Prop := v'.ownBlock = v.ownBlock ∨ ∀ g, v'.ownBlock = some g → w.heap.size ≤ g
theorem ApartS.new {w : World} {v v' u : Value} (h : ApartS u v) (hn : SameOrNew w v v') (hu : ∀ g, u.ownBlock = some g → g < w.heap.size) : ApartS u v' := by
  intro g hg hg'
  rcases hn with h1 | h1
  · exact h g hg (h1 ▸ hg')
  · have := h1 g hg'
    have := hu g hg
    omega
theorem own_lt {w : World} {base : Nat} {e : TypeId} {K n : Nat} {v : Value} {xs : List Value} (h : w.ownsRow base e K v n xs) : ∀ g, v.ownBlock = some g → g < w.heap.size := fun g hg => (h.lt g hg).2
/-! a block of ids -/
structure Bl where
  ad : Nat
  vi : Value
  vs : Value
  n : Int
  R : Row Id
def ptV : Option Nat → Value
  | none => .pointer none
  | some b => .pointer (some ⟨b, 0, none⟩)
theorem ptV_inj {a b : Option Nat} (h : ptV a = ptV b) : a = b := by
  cases a <;> cases b <;> simp [ptV] at h ⊢
  exact h
structure BlIs (w : World) (b : Bl) : Prop where
  cell : w.heap[b.ad]? = some (.cells #[b.vi, b.vs, .int .i64 b.n] 132 (0, 0))
  ids : w.ownsRow 0 26 3 b.vi b.R.length ((namesR b.R).flatMap idC)
  sn : w.ownsRow 0 4 1 b.vs b.R.length ((seenR b.R).flatMap boC)
def blFoot (b : Bl) (k : Nat) : Prop := k = b.ad ∨ b.vi.ownBlock = some k ∨ b.vs.ownBlock = some k
structure ShIs (w : World) (sb mp : Nat) (vb : Value) (Bs : List Bl) (D : DataW (Option Nat)) (t : Int) : Prop where
  cell : w.heap[sb]? = some (.cells #[vb, .map (some mp), .int .i64 t] 123 (0, 0))
  row : w.ownsRow 0 129 1 vb Bs.length ((Bs.map Bl.ad).flatMap ptC)
  bl : ∀ b ∈ Bs, BlIs w b
  map : w.ownsMap Tryd.prog 26 (objElem ptV) mp (Maps.size D) D
  apart : Bs.Pairwise (fun a b => a.ad ≠ b.ad ∧ ApartS a.vi b.vi ∧ ApartS a.vs b.vs)
def foot (sb mp : Nat) (vb : Value) (Bs : List Bl) (k : Nat) : Prop := k = sb ∨ k = mp ∨ vb.ownBlock = some k ∨ ∃ b ∈ Bs, blFoot b k
section
variable {w w' : World} {sb mp : Nat} {vb : Value} {Bs pre post : List Bl} {b b' c : Bl} {D : DataW (Option Nat)} {t : Int}
theorem BlIs.touch {F : Nat → Prop} (h : BlIs w b) (tt : Touch F w w') (hF : ∀ k, blFoot b k → ¬ F k) : BlIs w' b :=
  ⟨block_touch h.cell tt (hF _ (.inl rfl)), own_touch h.ids tt (fun g hg => hF g (.inr (.inl hg))), own_touch h.sn tt (fun g hg => hF g (.inr (.inr hg)))⟩
theorem BlIs.lt (h : BlIs w b) {k : Nat} (hk : blFoot b k) : k < w.heap.size := by
  rcases hk with rfl | hk | hk
  · exact kind_lt (kind_cell h.cell)
  · exact own_lt h.ids k hk
  · exact own_lt h.sn k hk
theorem ShIs.lt (h : ShIs w sb mp vb Bs D t) {k : Nat} (hk : foot sb mp vb Bs k) : k < w.heap.size := by
  rcases hk with rfl | rfl | hk | ⟨b, hb, hk⟩
  · exact kind_lt (kind_cell h.cell)
  · exact kind_lt (kind_map h.map)
  · exact own_lt h.row k hk
  · exact (h.bl b hb).lt hk
theorem ShIs.touch {F : Nat → Prop} (h : ShIs w sb mp vb Bs D t) (tt : Touch F w w') (hF : ∀ k, foot sb mp vb Bs k → ¬ F k) : ShIs w' sb mp vb Bs D t :=
  ⟨block_touch h.cell tt (hF _ (.inl rfl)), own_touch h.row tt (fun g hg => hF g (.inr (.inr (.inl hg)))), fun b hb => (h.bl b hb).touch tt (fun k hk => hF k (.inr (.inr (.inr ⟨b, hb, hk⟩)))), map_touch h.map tt (hF _ (.inr (.inl rfl))), h.apart⟩
theorem ShIs.below (h : ShIs w sb mp vb Bs D t) (hb : Below w.heap.size w w') : ShIs w' sb mp vb Bs D t :=
  h.touch (Below.touch hb (fun _ => False)) (fun _ _ h => h)
set_option maxRecDepth 1000000 in
theorem zero58 (u : World) : (zeroValue 129).run Tryd.prog u = .ok (ptV none) u := Tryd.zeroValue129 u
def inF (Bs : List Bl) (x : Id) : Option (Option Nat) := (Bs.find? (fun b => decide (x ∈ namesR b.R))).map (fun b => some b.ad)
theorem ShIs.look (h : ShIs w sb mp vb Bs D t) {f : Id → Option (Option Nat)} (hF : FMap idK f D) (x : Id) : (Instr.lookup 120 (.map (some mp)) (idV x) false).run Tryd.prog w = .ok (ptV ((f x).getD none)) w := by
  obtain ⟨v, ps, h1, h2⟩ := h.map.lookup keyed26 Tryd.underlying120 (zero58 w) (objElem_mk ptV_inj none) (ok26.val x)
  obtain ⟨a, rfl, h3⟩ := objElem_inv h2
  have h4 : D.atKey (idK x) (.held none) = .held a := congrArg Prod.fst h3
  rw [hF x] at h4
  have ha : a = (f x).getD none := by
    cases e : f x with
    | none => rw [e] at h4; cases h4; rfl
    | some y => rw [e] at h4; cases h4; rfl
  rw [h1, ha]
/-- what a block's own blocks are not -/
theorem ShIs.blNot (h : ShIs w sb mp vb (pre ++ b :: post) D t) {k : Nat} (hk : blFoot b k) : k ≠ sb ∧ k ≠ mp ∧ vb.ownBlock ≠ some k ∧ ∀ c ∈ pre ++ post, ¬ blFoot c k := by
  have hb := h.bl b (by simp)
  have hkind : kindOf w k = some (some 132) ∧ k = b.ad ∨ kindOf w k = some (some 26) ∧ b.vi.ownBlock = some k ∨ kindOf w k = some (some 4) ∧ b.vs.ownBlock = some k := by
    rcases hk with rfl | hk | hk
    · exact .inl ⟨kind_cell hb.cell, rfl⟩
    · exact .inr (.inl ⟨kind_row hb.ids hk, hk⟩)
    · exact .inr (.inr ⟨kind_row hb.sn hk, hk⟩)
  have hap : ∀ c ∈ pre ++ post, c.ad ≠ b.ad ∧ ApartS c.vi b.vi ∧ ApartS c.vs b.vs := fun c hc => by
    have hp := List.pairwise_append.1 h.apart
    have hp2 := List.pairwise_cons.1 hp.2.1
    rcases List.mem_append.1 hc with hc | hc
    · exact hp.2.2 c hc b (by simp)
    · obtain ⟨h1, h2, h3⟩ := hp2.1 c hc
      exact ⟨fun e => h1 e.symm, h2.symm, h3.symm⟩
  have hks := kind_cell h.cell
  have hkm := kind_map h.map
  refine ⟨fun e => ?_, fun e => ?_, fun e => ?_, fun c hc hcf => ?_⟩
  · rw [← e] at hks
    rcases hkind with ⟨h1, _⟩ | ⟨h1, _⟩ | ⟨h1, _⟩ <;> (rw [h1] at hks; revert hks; decide)
  · rw [← e] at hkm
    rcases hkind with ⟨h1, _⟩ | ⟨h1, _⟩ | ⟨h1, _⟩ <;> (rw [h1] at hkm; revert hkm; decide)
  · have hkr := kind_row h.row e
    rcases hkind with ⟨h1, _⟩ | ⟨h1, _⟩ | ⟨h1, _⟩ <;> (rw [h1] at hkr; revert hkr; decide)
  · have hc' := h.bl c (by rcases List.mem_append.1 hc with hc | hc <;> simp [hc])
    obtain ⟨a1, a2, a3⟩ := hap c hc
    have hcd := kind_cell hc'.cell
    rcases hcf with e | e | e
    · rw [← e] at hcd
      rcases hkind with ⟨_, h2⟩ | ⟨h1, _⟩ | ⟨h1, _⟩
      · exact a1 (e.symm.trans h2)
      · rw [h1] at hcd; revert hcd; decide
      · rw [h1] at hcd; revert hcd; decide
    · have hkr := kind_row hc'.ids e
      rcases hkind with ⟨h1, _⟩ | ⟨_, h2⟩ | ⟨h1, _⟩
      · rw [h1] at hkr; revert hkr; decide
      · exact a2 k e h2
      · rw [h1] at hkr; revert hkr; decide
    · have hkr := kind_row hc'.sn e
      rcases hkind with ⟨h1, _⟩ | ⟨h1, _⟩ | ⟨_, h2⟩
      · rw [h1] at hkr; revert hkr; decide
      · rw [h1] at hkr; revert hkr; decide
      · exact a3 k e h2
/-- a block is rewritten -/
theorem ShIs.change (h : ShIs w sb mp vb (pre ++ b :: post) D t) (tt : Touch (blFoot b) w w') (hb' : BlIs w' b') (had : b'.ad = b.ad) (hvi : SameOrNew w b.vi b'.vi) (hvs : SameOrNew w b.vs b'.vs) : ShIs w' sb mp vb (pre ++ b' :: post) D t := by
  have hn := fun k (hk : blFoot b k) => h.blNot hk
  have hp := List.pairwise_append.1 h.apart
  have hp2 := List.pairwise_cons.1 hp.2.1
  have hlt : ∀ c ∈ pre ++ post, (∀ g, c.vi.ownBlock = some g → g < w.heap.size) ∧ (∀ g, c.vs.ownBlock = some g → g < w.heap.size) := fun c hc => by
    have hc' := h.bl c (by rcases List.mem_append.1 hc with hc | hc <;> simp [hc])
    exact ⟨own_lt hc'.ids, own_lt hc'.sn⟩
  refine ⟨block_touch h.cell tt (fun hk => (hn _ hk).1 rfl), ?_, fun c hc => ?_, map_touch h.map tt (fun hk => (hn _ hk).2.1 rfl), ?_⟩
  · have := own_touch h.row tt (fun g hg hk => (hn _ hk).2.2.1 hg)
    simpa [had] using this
  · rcases List.mem_append.1 hc with hc | hc
    · exact (h.bl c (by simp [hc])).touch tt (fun k hk hk' => (hn k hk').2.2.2 c (by simp [hc]) hk)
    · rcases List.mem_cons.1 hc with rfl | hc
      · exact hb'
      · exact (h.bl c (by simp [hc])).touch tt (fun k hk hk' => (hn k hk').2.2.2 c (by simp [hc]) hk)
  · refine List.pairwise_append.2 ⟨hp.1, List.pairwise_cons.2 ⟨fun c hc => ?_, hp2.2⟩, fun c hc d hd => ?_⟩
    · obtain ⟨h1, h2, h3⟩ := hp2.1 c hc
      obtain ⟨l1, l2⟩ := hlt c (by simp [hc])
      exact ⟨by rw [had]; exact h1, (h2.symm.new hvi l1).symm, (h3.symm.new hvs l2).symm⟩
    · rcases List.mem_cons.1 hd with rfl | hd
      · obtain ⟨h1, h2, h3⟩ := hp.2.2 c hc b (by simp)
        obtain ⟨l1, l2⟩ := hlt c (by simp [hc])
        exact ⟨by rw [had]; exact h1, h2.new hvi l1, h3.new hvs l2⟩
      · exact hp.2.2 c hc d (by simp [hd])
/-- a block comes in, the row of blocks is rewritten -/
theorem ShIs.insert {vb' : Value} (h : ShIs w sb mp vb (pre ++ post) D t) (hc : BlIs w c) (hca : ∀ d ∈ pre ++ post, c.ad ≠ d.ad ∧ ApartS c.vi d.vi ∧ ApartS c.vs d.vs)
    (tt : Touch (fun k => k = sb ∨ vb.ownBlock = some k) w w') (hcell : w'.heap[sb]? = some (.cells #[vb', .map (some mp), .int .i64 t] 123 (0, 0))) (hrow : w'.ownsRow 0 129 1 vb' (pre.length + 1 + post.length) (((pre ++ c :: post).map Bl.ad).flatMap ptC)) : ShIs w' sb mp vb' (pre ++ c :: post) D t := by
  have hks := kind_cell h.cell
  have hbl : ∀ d, BlIs w d → ∀ k, blFoot d k → ¬ (k = sb ∨ vb.ownBlock = some k) := fun d hd k hk e => by
    have hkind : kindOf w k = some (some 132) ∨ kindOf w k = some (some 26) ∨ kindOf w k = some (some 4) := by
      rcases hk with rfl | hk | hk
      · exact .inl (kind_cell hd.cell)
      · exact .inr (.inl (kind_row hd.ids hk))
      · exact .inr (.inr (kind_row hd.sn hk))
    rcases e with e | e
    · rw [← e] at hks
      rcases hkind with h1 | h1 | h1 <;> (rw [h1] at hks; revert hks; decide)
    · have hkr := kind_row h.row e
      rcases hkind with h1 | h1 | h1 <;> (rw [h1] at hkr; revert hkr; decide)
  have hp := List.pairwise_append.1 h.apart
  refine ⟨hcell, by simpa [Nat.add_assoc, Nat.add_comm, Nat.add_left_comm] using hrow, fun d hd => ?_, map_touch h.map tt (fun e => ?_), ?_⟩
  · rcases List.mem_append.1 hd with hd | hd
    · have := h.bl d (by simp [hd])
      exact this.touch tt (hbl d this)
    · rcases List.mem_cons.1 hd with rfl | hd
      · exact hc.touch tt (hbl _ hc)
      · have := h.bl d (by simp [hd])
        exact this.touch tt (hbl d this)
  · have hkm := kind_map h.map
    rcases e with e | e
    · rw [← e] at hks; rw [hkm] at hks; revert hks; decide
    · have hkr := kind_row h.row e
      rw [hkm] at hkr; revert hkr; decide
  · refine List.pairwise_append.2 ⟨hp.1, List.pairwise_cons.2 ⟨fun d hd => hca d (by simp [hd]), hp.2.1⟩, fun d hd e he => ?_⟩
    rcases List.mem_cons.1 he with rfl | he
    · obtain ⟨h1, h2, h3⟩ := hca d (by simp [hd])
      exact ⟨fun e => h1 e.symm, h2.symm, h3.symm⟩
    · exact hp.2.2 d hd e he
/-- the map is rewritten -/
theorem ShIs.remap {D' : DataW (Option Nat)} (h : ShIs w sb mp vb Bs D t) (tt : Touch (fun k => k = mp) w w') (hm : w'.ownsMap Tryd.prog 26 (objElem ptV) mp (Maps.size D') D') : ShIs w' sb mp vb Bs D' t := by
  have hkm := kind_map h.map
  refine ⟨block_touch h.cell tt (ne_kind (kind_cell h.cell) hkm (by decide)), own_touch h.row tt (fun g hg => ne_kind (kind_row h.row hg) hkm (by decide)), fun b hb => (h.bl b hb).touch tt (fun k hk => ?_), hm, h.apart⟩
  rcases hk with rfl | hk | hk
  · exact ne_kind (kind_cell (h.bl b hb).cell) hkm (by decide)
  · exact ne_kind (kind_row (h.bl b hb).ids hk) hkm (by decide)
  · exact ne_kind (kind_row (h.bl b hb).sn hk) hkm (by decide)
/-- its count is rewritten -/
theorem ShIs.recount {t' : Int} (h : ShIs w sb mp vb Bs D t) (tt : Touch (fun k => k = sb) w w') (hc : w'.heap[sb]? = some (.cells #[vb, .map (some mp), .int .i64 t'] 123 (0, 0))) : ShIs w' sb mp vb Bs D t' := by
  have hks := kind_cell h.cell
  refine ⟨hc, own_touch h.row tt (fun g hg => ne_kind (kind_row h.row hg) hks (by decide)), fun b hb => (h.bl b hb).touch tt (fun k hk => ?_), map_touch h.map tt (ne_kind (kind_map h.map) hks (by decide)), h.apart⟩
  rcases hk with rfl | hk | hk
  · exact ne_kind (kind_cell (h.bl b hb).cell) hks (by decide)
  · exact ne_kind (kind_row (h.bl b hb).ids hk) hks (by decide)
  · exact ne_kind (kind_row (h.bl b hb).sn hk) hks (by decide)
end
/-! in order: what the blocks say is the row, and the map leads to each one's block -/
def rowOf (Bs : List Bl) : Row Id := Bs.flatMap Bl.R
theorem rowOf_app (A B : List Bl) : rowOf (A ++ B) = rowOf A ++ rowOf B := by simp [rowOf]
theorem rowOf_cons (a : Bl) (B : List Bl) : rowOf (a :: B) = a.R ++ rowOf B := by simp [rowOf]
structure Tidy (Bs : List Bl) (D : DataW (Option Nat)) (t : Int) (R : Row Id) : Prop where
  row : rowOf Bs = R
  nodup : (namesR R).Nodup
  cnt : ∀ b ∈ Bs, b.n = cntR b.R
  all : t = cntR R
  size : Maps.size D = R.length
  fm : FMap idK (inF Bs) D
def ShelfAt (w : World) (F : Nat → Prop) (sb : Nat) (R : Row Id) : Prop :=
  ∃ mp vb Bs D t, ShIs w sb mp vb Bs D t ∧ Tidy Bs D t R ∧ (∀ k, foot sb mp vb Bs k → F k) ∧ (∀ k, F k → k < w.heap.size) ∧ Bs.length ≤ 2 * R.length
theorem ShelfAt.touch {w w' : World} {F G : Nat → Prop} {sb : Nat} {R : Row Id} (h : ShelfAt w F sb R) (tt : Touch G w w') (hG : ∀ k, F k → ¬ G k) : ShelfAt w' F sb R := by
  obtain ⟨mp, vb, Bs, D, t, h1, h2, h3, h4, h5⟩ := h
  exact ⟨mp, vb, Bs, D, t, h1.touch tt (fun k hk => hG k (h3 k hk)), h2, h3, fun k hk => Nat.lt_of_lt_of_le (h4 k hk) tt.size, h5⟩
theorem ShelfAt.below {w w' : World} {F : Nat → Prop} {sb : Nat} {R : Row Id} (h : ShelfAt w F sb R) (hb : Below w.heap.size w w') : ShelfAt w' F sb R :=
  h.touch (Below.touch hb (fun _ => False)) (fun _ _ h => h)
end Go.Proofs.YtphapjbfaomblaaDoor
