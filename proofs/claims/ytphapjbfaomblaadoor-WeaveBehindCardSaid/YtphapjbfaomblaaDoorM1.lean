/- Texts as pieces: a valid text is one row of pieces, each the bytes of one code point, and each stands by itself. Plain Lean. -/
import Derived.Lib.MapLaws
import Derived.Lib.ValidLaws
namespace Go.Proofs.YtphapjbfaomblaaDoor
open Go Go.Lib

abbrev Bs := List UInt8
def bad (l : Bs) : Prop := (decodeL l).1 = 65533 ∧ (decodeL l).2 = 1
instance (l : Bs) : Decidable (bad l) := by unfold bad; infer_instance
/-- the bytes of one code point -/
def isP (p : Bs) : Prop := p ≠ [] ∧ ¬ bad p ∧ (decodeL p).2 = p.length
def AllP (ps : List Bs) : Prop := ∀ p ∈ ps, isP p
theorem AllP.nil : AllP [] := fun _ h => by cases h
theorem AllP.cons {p : Bs} {ps : List Bs} (h : isP p) (hs : AllP ps) : AllP (p :: ps) := fun q hq => by
  rcases List.mem_cons.1 hq with rfl | hq
  · exact h
  · exact hs q hq
theorem AllP.head {p : Bs} {ps : List Bs} (h : AllP (p :: ps)) : isP p := h p List.mem_cons_self
theorem AllP.tail {p : Bs} {ps : List Bs} (h : AllP (p :: ps)) : AllP ps := fun q hq => h q (List.mem_cons_of_mem _ hq)
theorem AllP.append {ps qs : List Bs} (h : AllP ps) (k : AllP qs) : AllP (ps ++ qs) := fun q hq => by
  rcases List.mem_append.1 hq with hq | hq
  · exact h q hq
  · exact k q hq
theorem AllP.left {ps qs : List Bs} (h : AllP (ps ++ qs)) : AllP ps := fun q hq => h q (List.mem_append_left _ hq)
theorem AllP.right {ps qs : List Bs} (h : AllP (ps ++ qs)) : AllP qs := fun q hq => h q (List.mem_append_right _ hq)
theorem AllP.take {ps : List Bs} (h : AllP ps) (k : Nat) : AllP (ps.take k) := fun q hq => h q (List.mem_of_mem_take hq)
theorem AllP.drop {ps : List Bs} (h : AllP ps) (k : Nat) : AllP (ps.drop k) := fun q hq => h q (List.mem_of_mem_drop hq)

/-- WHAT THE DECODER SAYS GOES BY THE BYTES THAT IT TAKES. -/
theorem decode_head {l : Bs} (hne : l ≠ []) (hb : ¬ bad l) (y : Bs) : decodeL (l.take (decodeL l).2 ++ y) = decodeL l := by
  have hl : 0 < l.length := List.length_pos_iff.2 hne
  have key : ∀ (n m : Nat) (b0 b1 b2 b3 c1 c2 c3 : Nat), ¬ ((decodeN n b0 b1 b2 b3).1 = 65533 ∧ (decodeN n b0 b1 b2 b3).2 = 1) → (decodeN n b0 b1 b2 b3).2 ≤ m →
      (2 ≤ (decodeN n b0 b1 b2 b3).2 → c1 = b1) → (3 ≤ (decodeN n b0 b1 b2 b3).2 → c2 = b2) → (4 ≤ (decodeN n b0 b1 b2 b3).2 → c3 = b3) → decodeN m b0 c1 c2 c3 = decodeN n b0 b1 b2 b3 := by
    intro n m b0 b1 b2 b3 c1 c2 c3 hv hm h1 h2 h3
    rcases decodeN_shape n b0 b1 b2 b3 with ⟨c, e⟩ | ⟨e1, e2, e3, ev, e⟩ | ⟨e1, e2, e3, e4, ev, es, e⟩ | ⟨e1, e2, e3, e4, e5, ev, ew, e⟩ | e
    · rw [e]; unfold decodeN; rw [if_pos c]
    · rw [e] at hm h1 h2 h3 ⊢
      obtain rfl : c1 = b1 := h1 (by simp)
      dsimp only at hm
      unfold decodeN
      rw [if_neg (by omega), if_pos (by omega), if_pos (by omega)]
    · rw [e] at hm h1 h2 h3 ⊢
      obtain rfl : c1 = b1 := h1 (by simp)
      obtain rfl : c2 = b2 := h2 (by simp)
      dsimp only at hm
      unfold decodeN
      rw [if_neg (by omega), if_neg (by omega), if_pos (by omega), if_pos (by omega)]
    · rw [e] at hm h1 h2 h3 ⊢
      obtain rfl : c1 = b1 := h1 (by simp)
      obtain rfl : c2 = b2 := h2 (by simp)
      obtain rfl : c3 = b3 := h3 (by simp)
      dsimp only at hm
      unfold decodeN
      rw [if_neg (by omega), if_neg (by omega), if_neg (by omega), if_pos (by omega), if_pos (by omega)]
    · rw [e] at hv; exact absurd ⟨rfl, rfl⟩ hv
  have hle := decodeL_le l hne
  have hw := decodeL_width l
  unfold bad at hb
  obtain ⟨k, hk⟩ : ∃ k, (decodeL l).2 = k := ⟨_, rfl⟩
  have g : ∀ j, j < k → (l.take k ++ y).getD j 0 = l.getD j 0 := by
    intro j hj
    simp only [List.getD_eq_getElem?_getD]
    rw [List.getElem?_append_left (by rw [List.length_take]; omega), List.getElem?_take, if_pos hj]
  have hlen : k ≤ (l.take k ++ y).length := by rw [List.length_append, List.length_take]; omega
  rw [hk] at hle hw ⊢
  rw [decodeL_N (l.take k ++ y), g 0 (by omega)]
  rw [decodeL_N l] at hk hb ⊢
  refine key _ _ _ _ _ _ _ _ _ hb ?_ ?_ ?_ ?_
  · rw [hk]; exact hlen
  · intro h; rw [g 1 (by omega)]
  · intro h; rw [g 2 (by omega)]
  · intro h; rw [g 3 (by omega)]

theorem isP_head {l : Bs} (hne : l ≠ []) (hb : ¬ bad l) : isP (l.take (decodeL l).2) := by
  have h := decode_head hne hb []
  rw [List.append_nil] at h
  have hl : 0 < l.length := List.length_pos_iff.2 hne
  have hw := decodeL_width l
  have hle := decodeL_le l hne
  refine ⟨?_, ?_, ?_⟩
  · intro e
    have := congrArg List.length e
    rw [List.length_take, List.length_nil] at this
    omega
  · unfold bad at hb ⊢; rw [h]; exact hb
  · rw [h, List.length_take]; omega
theorem isP.app {p : Bs} (h : isP p) (y : Bs) : decodeL (p ++ y) = decodeL p := by
  have := decode_head h.1 h.2.1 y
  rwa [h.2.2, List.take_length] at this
theorem isP.pos {p : Bs} (h : isP p) : 0 < p.length := List.length_pos_iff.2 h.1
theorem isP.four {p : Bs} (h : isP p) : p.length ≤ 4 := by
  rw [← h.2.2, decodeL_N]
  rcases decodeN_shape p.length (p.getD 0 0).toNat (p.getD 1 0).toNat (p.getD 2 0).toNat (p.getD 3 0).toNat with ⟨c, e⟩ | ⟨e1, e2, e3, ev, e⟩ | ⟨e1, e2, e3, e4, ev, es, e⟩ | ⟨e1, e2, e3, e4, e5, ev, ew, e⟩ | e
  all_goals (rw [e]; dsimp only; omega)
theorem isP_ascii {b : UInt8} (h : b.toNat < 128) : isP [b] := by
  have e := decodeL_ascii b [] h
  refine ⟨by simp, ?_, by rw [e]; rfl⟩
  unfold bad
  rw [e]
  dsimp only
  omega

theorem length_le_flatten : ∀ ps : List Bs, AllP ps → ps.length ≤ ps.flatten.length
  | [], _ => by simp
  | p :: ps, h => by
    have := length_le_flatten ps h.tail
    have := h.head.pos
    simp only [List.length_cons, List.flatten_cons, List.length_append]
    omega

/-- a text is valid just if it is pieces -/
theorem valid_flatten : ∀ ps : List Bs, AllP ps → validD ps.flatten = true
  | [], _ => rfl
  | p :: ps, h => by
    have hp := h.head
    rw [List.flatten_cons, validD_step _ (by simp [hp.1]), hp.app, if_neg (show ¬ ((decodeL p).1 = 65533 ∧ (decodeL p).2 = 1) from hp.2.1), hp.2.2, List.drop_left]
    exact valid_flatten ps h.tail
theorem valid_pieces : ∀ (n : Nat) (l : Bs), l.length ≤ n → validD l = true → ∃ ps, AllP ps ∧ l = ps.flatten
  | 0, l, h, _ => ⟨[], AllP.nil, by simpa using h⟩
  | n + 1, l, h, hv => by
    by_cases hne : l = []
    · exact ⟨[], AllP.nil, by simp [hne]⟩
    · have hl : 0 < l.length := List.length_pos_iff.2 hne
      rw [validD_step _ hne] at hv
      by_cases hb : (decodeL l).1 = 65533 ∧ (decodeL l).2 = 1
      · rw [if_pos hb] at hv; cases hv
      · rw [if_neg hb] at hv
        have hw := decodeL_width l
        obtain ⟨ps, h1, h2⟩ := valid_pieces n (l.drop (decodeL l).2) (by rw [List.length_drop]; omega) hv
        exact ⟨l.take (decodeL l).2 :: ps, AllP.cons (isP_head hne hb) h1, by rw [List.flatten_cons, ← h2, List.take_append_drop]⟩
theorem pieces_of_valid {l : Bs} (h : validD l = true) : ∃ ps, AllP ps ∧ l = ps.flatten := valid_pieces l.length l (Nat.le_refl _) h
/-- the pieces are one row alone -/
theorem pieces_unique : ∀ ps qs : List Bs, AllP ps → AllP qs → ps.flatten = qs.flatten → ps = qs
  | [], [], _, _, _ => rfl
  | [], q :: qs, _, k, e => by
    have := k.head.pos
    have h := congrArg List.length e
    rw [List.flatten_cons, List.length_append, List.flatten_nil, List.length_nil] at h
    omega
  | p :: ps, [], h, _, e => by
    have := h.head.pos
    have h := congrArg List.length e
    rw [List.flatten_cons, List.length_append, List.flatten_nil, List.length_nil] at h
    omega
  | p :: ps, q :: qs, h, k, e => by
    rw [List.flatten_cons, List.flatten_cons] at e
    have e1 := h.head.app ps.flatten
    rw [e, k.head.app qs.flatten] at e1
    have hl : p.length = q.length := by rw [← h.head.2.2, ← k.head.2.2, e1]
    obtain ⟨e2, e3⟩ := List.append_inj e hl
    rw [e2, pieces_unique ps qs h.tail k.tail e3]
end Go.Proofs.YtphapjbfaomblaaDoor
