/- A row of things each of which is seen or not: put, show, find, place; the same by blocks. Plain. -/
import Derived.Lib.Hide
namespace Go.Proofs.Ytphapjbfaomblaa
section
variable {α : Type} [DecidableEq α]
abbrev Row (α : Type) := List (α × Bool)
def cntR (R : Row α) : Nat := R.countP (·.2)
def ixR (R : Row α) (x : α) : Nat := R.findIdx (fun p => decide (p.1 = x))
def namesR (R : Row α) : List α := R.map (·.1)
def seenR (R : Row α) : List Bool := R.map (·.2)
def putR (R : Row α) (k : Nat) (x : α) (b : Bool) : Row α := R.take k ++ (x, b) :: R.drop k
def showR (R : Row α) (x : α) (b : Bool) : Row α := R.set (ixR R x) (x, b)
def findR : Row α → Nat → Option α
  | [], _ => none
  | (x, true) :: _, 0 => some x
  | (_, true) :: R, k + 1 => findR R k
  | (_, false) :: R, k => findR R k
def listR (R : Row α) (b : Bool) : List α := namesR (R.filter (fun p => p.2 || !b))
omit [DecidableEq α] in
theorem names_len (R : Row α) : (namesR R).length = R.length := by simp [namesR]
omit [DecidableEq α] in
theorem seenR_len (R : Row α) : (seenR R).length = R.length := by simp [seenR]
omit [DecidableEq α] in
theorem cntR_le (R : Row α) : cntR R ≤ R.length := List.countP_le_length
omit [DecidableEq α] in
theorem cntR_app (R S : Row α) : cntR (R ++ S) = cntR R + cntR S := by simp [cntR]
omit [DecidableEq α] in
theorem cntR_snoc (R : Row α) (p : α × Bool) : cntR (R ++ [p]) = cntR R + p.2.toNat := by
  rw [cntR_app]
  cases h : p.2 <;> simp [cntR, h]
omit [DecidableEq α] in
theorem cntR_cons (p : α × Bool) (R : Row α) : cntR (p :: R) = p.2.toNat + cntR R := by
  cases h : p.2 <;> simp [cntR, h]; omega
omit [DecidableEq α] in
theorem cntR_put (R : Row α) (k : Nat) (x : α) (b : Bool) : cntR (putR R k x b) = cntR R + b.toNat := by
  unfold putR
  rw [cntR_app, cntR_cons]
  have : cntR R = cntR (R.take k) + cntR (R.drop k) := by rw [← cntR_app, List.take_append_drop]
  dsimp only
  omega
omit [DecidableEq α] in
theorem putR_len (R : Row α) (k : Nat) (x : α) (b : Bool) (h : k ≤ R.length) : (putR R k x b).length = R.length + 1 := by
  unfold putR
  simp only [List.length_append, List.length_take, List.length_cons, List.length_drop]
  omega
omit [DecidableEq α] in
theorem names_put (R : Row α) (k : Nat) (x : α) (b : Bool) : namesR (putR R k x b) = (namesR R).take k ++ x :: (namesR R).drop k := by simp [namesR, putR]
omit [DecidableEq α] in
theorem seen_put (R : Row α) (k : Nat) (x : α) (b : Bool) : seenR (putR R k x b) = (seenR R).take k ++ b :: (seenR R).drop k := by simp [seenR, putR]
omit [DecidableEq α] in
theorem names_app (R S : Row α) : namesR (R ++ S) = namesR R ++ namesR S := by simp [namesR]
omit [DecidableEq α] in
theorem mem_put (R : Row α) (k : Nat) (x y : α) (b : Bool) : y ∈ namesR (putR R k x b) ↔ y = x ∨ y ∈ namesR R := by
  rw [names_put, List.mem_append, List.mem_cons]
  have : y ∈ namesR R ↔ y ∈ (namesR R).take k ∨ y ∈ (namesR R).drop k := by rw [← List.mem_append, List.take_append_drop]
  rw [this]
  constructor
  · rintro (h | h | h)
    · exact .inr (.inl h)
    · exact .inl h
    · exact .inr (.inr h)
  · rintro (h | h | h)
    · exact .inr (.inl h)
    · exact .inl h
    · exact .inr (.inr h)
omit [DecidableEq α] in
theorem nodup_put {R : Row α} {x : α} (k : Nat) (b : Bool) (h : (namesR R).Nodup) (hx : x ∉ namesR R) : (namesR (putR R k x b)).Nodup := by
  have hp : (namesR (putR R k x b)).Perm (x :: namesR R) := by
    rw [names_put]
    refine List.perm_middle.trans ?_
    rw [List.take_append_drop]
  exact hp.nodup_iff.2 (List.nodup_cons.2 ⟨hx, h⟩)
theorem ixR_le (R : Row α) (x : α) : ixR R x ≤ R.length := List.findIdx_le_length
theorem ixR_lt {R : Row α} {x : α} : ixR R x < R.length ↔ x ∈ namesR R := by
  unfold ixR namesR
  rw [List.findIdx_lt_length, List.mem_map]
  constructor
  · rintro ⟨p, hp, h⟩
    exact ⟨p, hp, by simpa using h⟩
  · rintro ⟨p, hp, h⟩
    exact ⟨p, hp, by simpa using h⟩
theorem ixR_get {R : Row α} {x : α} (h : ixR R x < R.length) : (R[ixR R x]).1 = x := by
  have := List.findIdx_getElem (p := fun p : α × Bool => decide (p.1 = x)) (xs := R) (w := h)
  exact of_decide_eq_true this
theorem ixR_before {R : Row α} {x : α} {i : Nat} (h : i < ixR R x) : (R[i]'(Nat.lt_of_lt_of_le h (ixR_le R x))).1 ≠ x := by
  have := List.not_of_lt_findIdx (p := fun p : α × Bool => decide (p.1 = x)) (xs := R) h
  simpa using this
theorem ixR_eq {R : Row α} {x : α} {i : Nat} (h : i < R.length) (hx : (R[i]).1 = x) (hb : ∀ j (hj : j < i), (R[j]'(Nat.lt_trans hj h)).1 ≠ x) : ixR R x = i := by
  rcases Nat.lt_trichotomy (ixR R x) i with h1 | h1 | h1
  · exact absurd (ixR_get (Nat.lt_trans h1 h)) (hb _ h1)
  · exact h1
  · exact absurd hx (ixR_before h1)
theorem ixR_nodup {R : Row α} (h : (namesR R).Nodup) {i : Nat} (hi : i < R.length) : ixR R (R[i]).1 = i := by
  refine ixR_eq hi rfl fun j hj e => ?_
  have := List.pairwise_iff_getElem.1 h j i (by rw [names_len]; omega) (by rw [names_len]; exact hi) hj
  exact this (by simpa [namesR] using e)
theorem ixR_app_left {R S : Row α} {x : α} (h : x ∈ namesR R) : ixR (R ++ S) x = ixR R x := by
  have hl := ixR_lt.2 h
  refine ixR_eq (by rw [List.length_append]; omega) ?_ fun j hj => ?_
  · rw [List.getElem_append_left hl]; exact ixR_get hl
  · rw [List.getElem_append_left (Nat.lt_trans hj hl)]; exact ixR_before hj
theorem ixR_app_right {R S : Row α} {x : α} (h : x ∉ namesR R) (hs : x ∈ namesR S) : ixR (R ++ S) x = R.length + ixR S x := by
  have hl := ixR_lt.2 hs
  refine ixR_eq (by rw [List.length_append]; omega) ?_ fun j hj => ?_
  · rw [List.getElem_append_right (by omega)]
    simp only [Nat.add_sub_cancel_left]
    exact ixR_get hl
  · by_cases hj' : j < R.length
    · rw [List.getElem_append_left hj']
      intro e
      exact h (e ▸ List.mem_map.2 ⟨R[j], List.getElem_mem hj', rfl⟩)
    · rw [List.getElem_append_right (by omega)]
      exact ixR_before (by omega)
theorem showR_len (R : Row α) (x : α) (b : Bool) : (showR R x b).length = R.length := by simp [showR]
theorem showR_names {R : Row α} {x : α} (b : Bool) (h : x ∈ namesR R) : namesR (showR R x b) = namesR R := by
  have hl := ixR_lt.2 h
  unfold namesR showR
  rw [List.map_set]
  have := ixR_get hl
  refine List.ext_getElem (by simp) fun i h1 h2 => ?_
  rw [List.getElem_set]
  split
  · rename_i e; subst e; simpa using this.symm
  · rfl
theorem showR_seen (R : Row α) (x : α) (b : Bool) : seenR (showR R x b) = (seenR R).set (ixR R x) b := by
  unfold seenR showR
  rw [List.map_set]
omit [DecidableEq α] in
theorem cntR_set {R : Row α} {i : Nat} (h : i < R.length) (x : α) (b : Bool) : cntR (R.set i (x, b)) + (R[i]).2.toNat = cntR R + b.toNat := by
  have h1 : R = R.take i ++ R[i] :: R.drop (i + 1) := by rw [List.getElem_cons_drop, List.take_append_drop]
  have h2 : R.set i (x, b) = R.take i ++ (x, b) :: R.drop (i + 1) := by rw [List.set_eq_take_append_cons_drop, if_pos h]
  have h3 : cntR R = cntR (R.take i) + ((R[i]).2.toNat + cntR (R.drop (i + 1))) := by rw [← cntR_cons, ← cntR_app, ← h1]
  rw [h2, cntR_app, cntR_cons]
  dsimp only
  omega
theorem show_app_left {R S : Row α} {x : α} (b : Bool) (h : x ∈ namesR R) : showR (R ++ S) x b = showR R x b ++ S := by
  unfold showR
  rw [ixR_app_left h, List.set_append, if_pos (ixR_lt.2 h)]
theorem show_app_right {R S : Row α} {x : α} (b : Bool) (h : x ∉ namesR R) (hs : x ∈ namesR S) : showR (R ++ S) x b = R ++ showR S x b := by
  unfold showR
  rw [ixR_app_right h hs, List.set_append, if_neg (by omega), Nat.add_sub_cancel_left]
theorem show_mid {P B S : Row α} {x : α} (b : Bool) (hp : x ∉ namesR P) (hb : x ∈ namesR B) : showR (P ++ (B ++ S)) x b = P ++ (showR B x b ++ S) := by
  rw [show_app_right b hp (by rw [names_app]; exact List.mem_append_left _ hb), show_app_left b hb]
omit [DecidableEq α] in
theorem put_mid (P B S : Row α) (k : Nat) (x : α) (b : Bool) (hk : k ≤ B.length) : putR (P ++ (B ++ S)) (P.length + k) x b = P ++ (putR B k x b ++ S) := by
  unfold putR
  rw [List.take_append, List.drop_append]
  simp only [Nat.add_sub_cancel_left, List.take_of_length_le (Nat.le_add_right _ _), List.drop_of_length_le (Nat.le_add_right P.length k)]
  rw [List.take_append_of_le_length hk, List.drop_append_of_le_length hk]
  simp
/-! found -/
omit [DecidableEq α] in
theorem findR_app_lt : ∀ (R S : Row α) (k : Nat), k < cntR R → findR (R ++ S) k = findR R k
  | [], _, k, h => by simp [cntR] at h
  | (x, true) :: R, S, 0, _ => rfl
  | (x, true) :: R, S, k + 1, h => by
    rw [cntR_cons] at h
    simp only [Bool.toNat_true] at h
    exact findR_app_lt R S k (by omega)
  | (x, false) :: R, S, k, h => by
    rw [cntR_cons] at h
    simp only [Bool.toNat_false] at h
    show findR (R ++ S) k = findR R k
    exact findR_app_lt R S k (by omega)
omit [DecidableEq α] in
theorem findR_app_ge : ∀ (R S : Row α) (k : Nat), cntR R ≤ k → findR (R ++ S) k = findR S (k - cntR R)
  | [], _, k, _ => rfl
  | (x, true) :: R, S, 0, h => by
    rw [cntR_cons] at h
    simp only [Bool.toNat_true] at h
    omega
  | (x, true) :: R, S, k + 1, h => by
    rw [cntR_cons] at h ⊢
    simp only [Bool.toNat_true] at h ⊢
    show findR (R ++ S) k = _
    rw [findR_app_ge R S k (by omega)]
    congr 1
    omega
  | (x, false) :: R, S, k, h => by
    rw [cntR_cons] at h ⊢
    simp only [Bool.toNat_false, Nat.zero_add] at h ⊢
    show findR (R ++ S) k = _
    exact findR_app_ge R S k h
omit [DecidableEq α] in
theorem findR_none (R : Row α) (k : Nat) (h : cntR R ≤ k) : findR R k = none := by
  have := findR_app_ge R [] k h
  rw [List.append_nil] at this
  rw [this]; rfl
omit [DecidableEq α] in
theorem findR_some : ∀ (R : Row α) (k : Nat), k < cntR R → ∃ x, findR R k = some x ∧ x ∈ namesR R
  | [], k, h => by simp [cntR] at h
  | (x, true) :: R, 0, _ => ⟨x, rfl, by simp [namesR]⟩
  | (x, true) :: R, k + 1, h => by
    rw [cntR_cons] at h
    simp only [Bool.toNat_true] at h
    obtain ⟨y, h1, h2⟩ := findR_some R k (by omega)
    exact ⟨y, h1, by rw [namesR, List.map_cons]; exact List.mem_cons_of_mem _ h2⟩
  | (x, false) :: R, k, h => by
    rw [cntR_cons] at h
    simp only [Bool.toNat_false, Nat.zero_add] at h
    obtain ⟨y, h1, h2⟩ := findR_some R k h
    exact ⟨y, h1, by rw [namesR, List.map_cons]; exact List.mem_cons_of_mem _ h2⟩
omit [DecidableEq α] in
/-- the one that stands at a place, if it is seen, is found by what is seen ahead -/
theorem findR_at {R : Row α} {i : Nat} (hi : i < R.length) (hs : (R[i]).2 = true) : findR R (cntR (R.take i)) = some (R[i]).1 := by
  have h1 : R = R.take i ++ R[i] :: R.drop (i + 1) := by rw [List.getElem_cons_drop, List.take_append_drop]
  obtain ⟨p, hp⟩ : ∃ p, R[i] = p := ⟨_, rfl⟩
  rw [hp] at h1 hs ⊢
  have h2 := findR_app_ge (R.take i) (p :: R.drop (i + 1)) (cntR (R.take i)) (Nat.le_refl _)
  rw [← h1, Nat.sub_self] at h2
  rw [h2]
  obtain ⟨x, b⟩ := p
  dsimp only at hs
  subst hs
  rfl
omit [DecidableEq α] in
theorem cntR_take_succ {R : Row α} {i : Nat} (hi : i < R.length) : cntR (R.take (i + 1)) = cntR (R.take i) + (R[i]).2.toNat := by
  rw [List.take_succ_eq_append_getElem hi, cntR_snoc]
omit [DecidableEq α] in
theorem cntR_take_le (R : Row α) (i : Nat) : cntR (R.take i) ≤ cntR R := by
  have : cntR R = cntR (R.take i) + cntR (R.drop i) := by rw [← cntR_app, List.take_append_drop]
  omega
omit [DecidableEq α] in
theorem listR_false (R : Row α) : listR R false = namesR R := by
  unfold listR
  congr 1
  exact List.filter_eq_self.2 (fun p _ => by simp)
omit [DecidableEq α] in
theorem listR_app (R S : Row α) (b : Bool) : listR (R ++ S) b = listR R b ++ listR S b := by simp [listR, namesR]
omit [DecidableEq α] in
theorem listR_true_len (R : Row α) : (listR R true).length = cntR R := by
  simp only [listR, namesR, List.length_map, cntR, List.countP_eq_length_filter]
  congr 1
  simp
omit [DecidableEq α] in
/-- the next of the seen ones is the one at a place, just if it is seen -/
theorem listR_next {R : Row α} (hn : (namesR R).Nodup) {i : Nat} (hi : i < R.length) (hk : cntR (R.take i) < (listR R true).length) : (listR R true)[cntR (R.take i)] = (R[i]).1 ↔ (R[i]).2 = true := by
  have h1 : R = R.take i ++ R[i] :: R.drop (i + 1) := by rw [List.getElem_cons_drop, List.take_append_drop]
  have hl : listR R true = listR (R.take i) true ++ listR (R[i] :: R.drop (i + 1)) true := by rw [← listR_app, ← h1]
  have hg : (listR R true)[cntR (R.take i)]? = (listR (R[i] :: R.drop (i + 1)) true)[0]? := by
    rw [hl, List.getElem?_append_right (by rw [listR_true_len]; exact Nat.le_refl _), listR_true_len, Nat.sub_self]
  rw [List.getElem?_eq_getElem hk] at hg
  obtain ⟨p, hp⟩ : ∃ p, R[i] = p := ⟨_, rfl⟩
  have hnp : p.1 ∉ namesR (R.drop (i + 1)) := by
    rw [h1, hp, names_app] at hn
    have := (List.nodup_append.1 hn).2.1
    rw [namesR, List.map_cons, List.nodup_cons] at this
    exact this.1
  rw [hp] at hg ⊢
  obtain ⟨x, b⟩ := p
  cases b
  · refine ⟨fun e => ?_, fun e => by cases e⟩
    exfalso
    rw [e] at hg
    have hm : x ∈ listR (R.drop (i + 1)) true := List.mem_of_getElem? (i := 0) (by rw [hg]; simp [listR, namesR])
    have : x ∈ namesR (R.drop (i + 1)) := by
      unfold listR namesR at hm
      obtain ⟨q, hq, rfl⟩ := List.mem_map.1 hm
      exact List.mem_map.2 ⟨q, (List.mem_filter.1 hq).1, rfl⟩
    exact hnp this
  · refine ⟨fun _ => rfl, fun _ => ?_⟩
    have : (listR ((x, true) :: List.drop (i + 1) R) true)[0]? = some x := by simp [listR, namesR]
    rw [this] at hg
    exact Option.some.inj hg
end
end Go.Proofs.Ytphapjbfaomblaa
