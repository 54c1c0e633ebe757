/- Floats by their bits: their order, their keys, the document's ranks; which are numbers; a rate of nothing; counts in a sorted list; places by keys. Plain Lean, no program. -/
import Ieee.Arith
namespace Go.Gauge
open Ieee
def B : Nat := 4503599627370496
def S : Nat := 9223372036854775808
def inf : Nat := 9218868437227405312
theorem binade_eq : double.binade = B := by decide
theorem sign_eq : double.signWeight = S := by decide
theorem inf_eq : double.infRung = inf := by decide
def rung (x : Nat) : Nat := x % S
def neg (x : Nat) : Bool := x / S % 2 == 1
def nan (x : Nat) : Bool := decide (inf < rung x)
/-- a rung's own size, in units of the least one -/
def size (r : Nat) : Nat := if r < B then r else (B + r % B) * 2 ^ (r / B - 1)
def lin (x : Nat) : Int := if neg x then -(rung x : Int) else rung x
theorem size_succ (r : Nat) : size r < size (r + 1) := by
  unfold size
  by_cases h : r + 1 < B
  · rw [if_pos (by omega), if_pos h]; omega
  · rw [if_neg h]
    by_cases h1 : r < B
    · rw [if_pos h1]
      have e : r + 1 = B := by omega
      rw [e, Nat.mod_self, Nat.div_self (by decide)]
      simp; omega
    · rw [if_neg h1]
      have hb : 0 < B := by decide
      have h2 : 0 < r / B := Nat.div_pos (by omega) hb
      by_cases h3 : r % B + 1 < B
      · have e1 : (r + 1) / B = r / B := by
          have := Nat.div_add_mod r B
          rw [show r + 1 = r % B + 1 + B * (r / B) by omega, Nat.add_mul_div_left _ _ hb, Nat.div_eq_of_lt h3, Nat.zero_add]
        have e2 : (r + 1) % B = r % B + 1 := by
          have := Nat.div_add_mod r B
          rw [show r + 1 = r % B + 1 + B * (r / B) by omega, Nat.add_mul_mod_self_left, Nat.mod_eq_of_lt h3]
        rw [e1, e2]
        exact Nat.mul_lt_mul_of_pos_right (by omega) (Nat.two_pow_pos _)
      · have hm := Nat.mod_lt r hb
        have h4 : r % B + 1 = B := by omega
        have h5 : r + 1 = B * (r / B + 1) := by
          have := Nat.div_add_mod r B
          rw [Nat.mul_add]; omega
        have e1 : (r + 1) / B = r / B + 1 := by rw [h5, Nat.mul_div_cancel_left _ hb]
        have e2 : (r + 1) % B = 0 := by rw [h5, Nat.mul_mod_right]
        rw [e1, e2, show r / B + 1 - 1 = (r / B - 1) + 1 by omega, Nat.pow_succ, Nat.mul_comm (2 ^ (r / B - 1)) 2, ← Nat.mul_assoc]
        exact Nat.mul_lt_mul_of_pos_right (by omega) (Nat.two_pow_pos _)
theorem size_lt {r s : Nat} (h : r < s) : size r < size s := by
  induction s with
  | zero => omega
  | succ s ih =>
    by_cases e : r = s
    · rw [e]; exact size_succ s
    · exact Nat.lt_trans (ih (by omega)) (size_succ s)
theorem size_iff {r s : Nat} : size r < size s ↔ r < s := by
  constructor
  · intro h
    by_cases e : r < s
    · exact e
    · exfalso
      rcases Nat.lt_or_ge s r with h1 | h1
      · have := size_lt h1; omega
      · have : r = s := by omega
        rw [this] at h; omega
  · exact size_lt
theorem size_zero : size 0 = 0 := rfl
/-- a finite word, read -/
theorem read_num {x : Nat} (h : rung x < inf) : ∃ m k : Nat, double.read x = .number (neg x) m (double.leastPlace + (k : Nat)) ∧ m * 2 ^ k = size (rung x) := by
  unfold Format.read
  rw [sign_eq, binade_eq, inf_eq]
  show ∃ m k : Nat, (if rung x < B then _ else _) = _ ∧ _
  by_cases h1 : rung x < B
  · refine ⟨rung x, 0, ?_, ?_⟩
    · rw [if_pos h1]
      show Datum.number _ _ _ = _
      simp [neg, rung]
    · unfold size; rw [if_pos h1]; simp
  · refine ⟨B + rung x % B, rung x / B - 1, ?_, ?_⟩
    · rw [if_neg h1]
      show (if rung x < inf then _ else _) = _
      rw [if_pos h]
      rfl
    · unfold size; rw [if_neg h1]
theorem read_inf {x : Nat} (h : rung x = inf) : double.read x = .infinity (neg x) := by
  unfold Format.read
  rw [sign_eq, binade_eq, inf_eq]
  show (if rung x < B then _ else if rung x < inf then _ else if rung x = inf then _ else _) = _
  rw [if_neg (by rw [h]; decide), if_neg (by omega), if_pos h]
  rfl
theorem read_nan {x : Nat} (h : inf < rung x) : double.read x = .nan (neg x) (rung x - inf) := by
  unfold Format.read
  rw [sign_eq, binade_eq, inf_eq]
  show (if rung x < B then _ else if rung x < inf then _ else if rung x = inf then _ else _) = _
  have hb : B < inf := by decide
  rw [if_neg (by omega), if_neg (by omega), if_neg (by omega)]
  rfl
theorem cmp_same {a b c d : Int} (h1 : a < b ↔ c < d) (h2 : a = b ↔ c = d) : compare a b = compare c d := by
  show compareOfLessAndEq a b = compareOfLessAndEq c d
  unfold compareOfLessAndEq
  simp only [h1, h2]
theorem signed_eq (s : Bool) (m a : Nat) : signed s m a = if s then -((m * 2 ^ a : Nat) : Int) else ((m * 2 ^ a : Nat) : Int) := by
  unfold signed
  rw [Nat.shiftLeft_eq]
theorem signed_up (s : Bool) (m a k : Nat) (h : k ≤ a) : signed s m a = signed s m (a - k) * ((2 ^ k : Nat) : Int) := by
  rw [signed_eq, signed_eq]
  have e : m * 2 ^ a = m * 2 ^ (a - k) * 2 ^ k := by rw [Nat.mul_assoc, ← Nat.pow_add, Nat.sub_add_cancel h]
  rw [e]
  cases s
  · simp
  · simp only [if_true]
    rw [Int.natCast_mul, Int.neg_mul]
theorem cmp_up {a b : Int} {k : Nat} : compare (a * ((2 ^ k : Nat) : Int)) (b * ((2 ^ k : Nat) : Int)) = compare a b := by
  have hp : (0 : Int) < ((2 ^ k : Nat) : Int) := by
    have := Nat.two_pow_pos k
    omega
  refine cmp_same ⟨fun h => Int.lt_of_mul_lt_mul_right h (Int.le_of_lt hp), fun h => Int.mul_lt_mul_of_pos_right h hp⟩ ⟨fun h => Int.eq_of_mul_eq_mul_right (by omega) h, fun h => by rw [h]⟩
def ssize (x : Nat) : Int := if neg x then -(size (rung x) : Int) else size (rung x)
theorem ssize_cmp (x y : Nat) : compare (ssize x) (ssize y) = compare (lin x) (lin y) := by
  have h1 := size_iff (r := rung x) (s := rung y)
  have h2 := size_iff (r := rung y) (s := rung x)
  have h0 : ∀ r, r = 0 ∨ 0 < size r := fun r => by
    rcases Nat.eq_zero_or_pos r with h | h
    · exact .inl h
    · exact .inr (Nat.lt_of_le_of_lt (Nat.zero_le _) (size_lt h))
  have z1 : rung x = 0 → size (rung x) = 0 := fun h => by rw [h]; rfl
  have z2 : rung y = 0 → size (rung y) = 0 := fun h => by rw [h]; rfl
  have p1 := h0 (rung x)
  have p2 := h0 (rung y)
  unfold ssize lin
  cases neg x <;> cases neg y <;> (refine cmp_same ?_ ?_ <;> simp <;> omega)
theorem sign_cmp_lt {x y : Nat} (h : lin x < lin y) : compare (lin x) (lin y) = .lt := by
  show compareOfLessAndEq _ _ = _
  unfold compareOfLessAndEq
  rw [if_pos h]
theorem sign_cmp_gt {x y : Nat} (h : lin y < lin x) : compare (lin x) (lin y) = .gt := by
  show compareOfLessAndEq _ _ = _
  unfold compareOfLessAndEq
  rw [if_neg (by omega), if_neg (by omega)]
theorem sign_cmp_eq {x y : Nat} (h : lin y = lin x) : compare (lin x) (lin y) = .eq := by
  show compareOfLessAndEq _ _ = _
  unfold compareOfLessAndEq
  rw [if_neg (by omega), if_pos h.symm]
/-- HOW TWO FLOATS STAND TO ONE ANOTHER -/
theorem order_eq (x y : Nat) : double.order x y = if nan x || nan y then none else some (compare (lin x) (lin y)) := by
  unfold Format.order
  have hx := Nat.lt_trichotomy (rung x) inf
  have hy := Nat.lt_trichotomy (rung y) inf
  have nx : nan x = decide (inf < rung x) := rfl
  have ny : nan y = decide (inf < rung y) := rfl
  rcases hx with hx | hx | hx
  · obtain ⟨m, a, ex, sx⟩ := read_num hx
    rw [ex]
    rcases hy with hy | hy | hy
    · obtain ⟨n, b, ey, sy⟩ := read_num hy
      rw [ey, nx, ny, decide_eq_false (by omega), decide_eq_false (by omega)]
      show some _ = some _
      refine congrArg some ?_
      show compare (signed (neg x) m (double.leastPlace + (a : Nat) - min (double.leastPlace + (a : Nat)) (double.leastPlace + (b : Nat))).toNat) (signed (neg y) n (double.leastPlace + (b : Nat) - min (double.leastPlace + (a : Nat)) (double.leastPlace + (b : Nat))).toNat) = _
      rw [show (double.leastPlace + (a : Nat) - min (double.leastPlace + (a : Nat)) (double.leastPlace + (b : Nat))).toNat = a - min a b by omega,
        show (double.leastPlace + (b : Nat) - min (double.leastPlace + (a : Nat)) (double.leastPlace + (b : Nat))).toNat = b - min a b by omega]
      rw [← cmp_up (k := min a b), ← signed_up _ _ _ _ (Nat.min_le_left ..), ← signed_up _ _ _ _ (Nat.min_le_right ..), signed_eq, signed_eq, sx, sy]
      exact ssize_cmp x y
    · rw [read_inf hy, nx, ny, decide_eq_false (by omega), decide_eq_false (by omega)]
      show some _ = some _
      refine congrArg some ?_
      cases h : neg y
      · refine (sign_cmp_lt ?_).symm
        unfold lin; rw [h]; cases neg x <;> simp <;> omega
      · refine (sign_cmp_gt ?_).symm
        unfold lin; rw [h]; cases neg x <;> simp <;> omega
    · rw [read_nan hy, ny, decide_eq_true hy, Bool.or_true]; rfl
  · rw [read_inf hx]
    rcases hy with hy | hy | hy
    · obtain ⟨n, b, ey, sy⟩ := read_num hy
      rw [ey, nx, ny, decide_eq_false (by omega), decide_eq_false (by omega)]
      show some _ = some _
      refine congrArg some ?_
      cases h : neg x
      · refine (sign_cmp_gt ?_).symm
        unfold lin; rw [h]; cases neg y <;> simp <;> omega
      · refine (sign_cmp_lt ?_).symm
        unfold lin; rw [h]; cases neg y <;> simp <;> omega
    · rw [read_inf hy, nx, ny, decide_eq_false (by omega), decide_eq_false (by omega)]
      show some _ = some _
      refine congrArg some ?_
      have hi : 0 < inf := by decide
      cases h : neg x <;> cases k : neg y
      · rw [sign_cmp_eq (by unfold lin; rw [h, k, hx, hy])]; rfl
      · rw [sign_cmp_gt (by unfold lin; rw [h, k]; simp; omega)]; rfl
      · rw [sign_cmp_lt (by unfold lin; rw [h, k]; simp; omega)]; rfl
      · rw [sign_cmp_eq (by unfold lin; rw [h, k, hx, hy])]; rfl
    · rw [read_nan hy, ny, decide_eq_true hy, Bool.or_true]; rfl
  · rw [read_nan hx, nx, decide_eq_true hx, Bool.true_or]; rfl
end Go.Gauge
namespace Go.Gauge
open Ieee
def canonNan : Nat := 9221120237041090561
def canon (x : Nat) : Nat := if nan x then canonNan else x
def key (x : Nat) : Int := if nan x then -9223372036854775808 else if neg x then -(rung x : Int) - 1 else rung x
def rank (x : Nat) : Int := if nan x then 0 else if lin x < 0 then 1 else if lin x = 0 then (if neg x then 2 else 3) else 4
def refCmp (x y : Nat) : Int := if rank x < rank y then -1 else if rank y < rank x then 1 else if rank x = 0 ∨ lin x = lin y then 0 else if lin x < lin y then -1 else 1
def keyCmp (x y : Nat) : Int := if key x < key y then -1 else if key y < key x then 1 else 0
theorem rung_lt (x : Nat) : rung x < 9223372036854775808 := Nat.mod_lt _ (by decide)
theorem rung_fin {x : Nat} (h : nan x = false) : rung x ≤ 9218868437227405312 := by
  have := of_decide_eq_false h
  have e : inf = 9218868437227405312 := rfl
  omega
set_option maxHeartbeats 4000000 in
theorem keyCmp_eq (x y : Nat) : keyCmp x y = refCmp x y := by
  have r1 := rung_lt x
  have r2 := rung_lt y
  unfold keyCmp refCmp key rank lin
  cases hx : nan x <;> cases hy : nan y <;> (try have f1 := rung_fin hx) <;> (try have f2 := rung_fin hy) <;> clear hx hy <;> cases neg x <;> cases neg y <;> simp <;> (repeat' split) <;> omega
theorem key_nan {x : Nat} : key x = -9223372036854775808 ↔ nan x = true := by
  unfold key
  cases hx : nan x
  · have f1 := rung_fin hx
    cases neg x <;> simp <;> omega
  · simp
theorem word_eq {x : Nat} (h : x < 18446744073709551616) : x = (if neg x then S else 0) + rung x := by
  have h1 := Nat.div_add_mod x S
  have h2 : x / S < 2 := (Nat.div_lt_iff_lt_mul (by decide)).2 h
  unfold neg rung
  obtain ⟨q, hq⟩ : ∃ q, x / S = q := ⟨_, rfl⟩
  rw [hq] at h1 h2 ⊢
  have : q = 0 ∨ q = 1 := by omega
  rcases this with rfl | rfl
  · rw [Nat.mul_zero, Nat.zero_add] at h1
    rw [h1]; simp
  · rw [Nat.mul_one] at h1
    simp [h1]
theorem canon_nan : nan canonNan = true := by decide +kernel
theorem canon_iff {x y : Nat} (hx : x < 18446744073709551616) (hy : y < 18446744073709551616) : canon x = canon y ↔ keyCmp x y = 0 := by
  have h : keyCmp x y = 0 ↔ key x = key y := by
    unfold keyCmp
    repeat' split
    all_goals omega
  rw [h]
  cases nx : nan x <;> cases ny : nan y
  · have e1 : canon x = x := by unfold canon; rw [nx]; rfl
    have e2 : canon y = y := by unfold canon; rw [ny]; rfl
    rw [e1, e2]
    constructor
    · intro e; rw [e]
    · intro e
      unfold key at e
      rw [nx, ny] at e
      have w1 := word_eq hx
      have w2 := word_eq hy
      rw [w1, w2]
      cases n1 : neg x <;> cases n2 : neg y <;> rw [n1, n2] at e <;> simp at e ⊢ <;> omega
  · have e1 : canon x = x := by unfold canon; rw [nx]; rfl
    have e2 : canon y = canonNan := by unfold canon; rw [ny]; rfl
    rw [e1, e2]
    constructor
    · intro e; rw [e, canon_nan] at nx; cases nx
    · intro e; rw [key_nan.2 ny] at e; rw [key_nan.1 e] at nx; cases nx
  · have e1 : canon x = canonNan := by unfold canon; rw [nx]; rfl
    have e2 : canon y = y := by unfold canon; rw [ny]; rfl
    rw [e1, e2]
    constructor
    · intro e; rw [← e, canon_nan] at ny; cases ny
    · intro e; rw [key_nan.2 nx] at e; rw [key_nan.1 e.symm] at ny; cases ny
  · have e1 : canon x = canonNan := by unfold canon; rw [nx]; rfl
    have e2 : canon y = canonNan := by unfold canon; rw [ny]; rfl
    rw [e1, e2, key_nan.2 nx, key_nan.2 ny]
    simp
theorem lin_key {x y : Nat} (hx : nan x = false) (hy : nan y = false) (h : lin x < lin y) : keyCmp x y = -1 := by
  have : key x < key y := by
    unfold key
    rw [hx, hy]
    unfold lin at h
    cases n1 : neg x <;> cases n2 : neg y <;> rw [n1, n2] at h <;> simp at h ⊢ <;> omega
  unfold keyCmp
  rw [if_pos this]
theorem keyCmp_flip (x y : Nat) : keyCmp x y = -keyCmp y x := by
  unfold keyCmp
  repeat' split
  all_goals omega
theorem keyCmp_self (x : Nat) : keyCmp x x = 0 := by
  unfold keyCmp
  rw [if_neg (by omega), if_neg (by omega)]
theorem keyCmp_trans (x y z : Nat) : 0 < keyCmp x y ∨ 0 < keyCmp y z ∨ keyCmp x z ≤ 0 := by
  unfold keyCmp
  repeat' split
  all_goals omega
end Go.Gauge
namespace Go.Gauge
open Ieee
theorem word_parts (s : Bool) (r : Nat) (h : r < S) : rung (double.word s r) = r ∧ neg (double.word s r) = s := by
  unfold Format.word rung neg
  rw [sign_eq]
  cases s
  · simp [Nat.mod_eq_of_lt h, Nat.div_eq_of_lt h]
  · have hs : 0 < S := by decide
    simp [Nat.mod_eq_of_lt h, Nat.add_div_left _ hs, Nat.div_eq_of_lt h]
/-- the float of a whole number that is not nought: neither nought nor NaN, and of its sign -/
theorem nearest_parts (s : Bool) (m : Nat) (hm : m ≠ 0) : 0 < rung (double.nearest s m 0) ∧ rung (double.nearest s m 0) ≤ inf ∧ neg (double.nearest s m 0) = s := by
  unfold Format.nearest
  rw [if_neg hm]
  dsimp only
  rw [inf_eq, binade_eq]
  have hl : double.leastPlace = -1074 := by decide
  have hf : double.fractionBits = 52 := rfl
  rw [hl, hf]
  obtain ⟨k, hk⟩ : ∃ k, Toward.even.cut s (m <<< ((0 : Int) - max (0 + (m.log2 : Int) - (52 : Nat)) (-1074)).toNat) (max (0 + (m.log2 : Int) - (52 : Nat)) (-1074) - 0).toNat = k := ⟨_, rfl⟩
  rw [hk]
  have h1 : 1 ≤ (max (0 + (m.log2 : Int) - (52 : Nat)) (-1074) - (-1074)).toNat := by omega
  have h2 := Nat.mul_le_mul_right B h1
  have hB : 0 < B := by decide
  have hi : inf < S := by decide
  have h3 : min ((max (0 + (m.log2 : Int) - (52 : Nat)) (-1074) - (-1074)).toNat * B + k) inf ≤ inf := Nat.min_le_right ..
  obtain ⟨a, b⟩ := word_parts s _ (Nat.lt_of_le_of_lt h3 hi)
  rw [a, b]
  have hi0 : 0 < inf := by decide
  exact ⟨by omega, h3, rfl⟩
theorem div_zero {x : Nat} (h0 : 0 < rung x) (h1 : rung x ≤ inf) : double.div x 0 = some (double.word (neg x) inf) := by
  unfold Format.div
  have hz : double.read 0 = .number false 0 (-1074) := by decide +kernel
  rw [hz]
  rcases Nat.lt_or_eq_of_le h1 with h | h
  · obtain ⟨m, k, e, es⟩ := read_num h
    have hm : m ≠ 0 := by
      intro e0
      rw [e0, Nat.zero_mul] at es
      have := size_lt h0
      rw [size_zero] at this
      omega
    rw [e]
    unfold Datum.quotient
    simp [hm, Format.write, inf_eq]
  · rw [read_inf h]
    unfold Datum.quotient
    simp [Format.write, inf_eq]
theorem zero_div_zero : double.div 0 0 = none := by decide +kernel
theorem inf_order (s : Bool) : double.order (double.word s inf) 0 = some (if s then .lt else .gt) := by
  cases s <;> decide +kernel
theorem inf_add (s : Bool) : double.add (double.word s inf) (double.word s inf) = some (double.word s inf) := by
  cases s <;> decide +kernel
theorem inf_self (s : Bool) : double.order (double.word s inf) (double.word s inf) = some .eq := by
  cases s <;> decide +kernel
end Go.Gauge
namespace Go.Gauge
theorem pair_at {α : Type} {f : α → Int} : ∀ {L : List α}, L.Pairwise (fun a b => f a ≤ f b) → ∀ i j (hi : i < L.length) (hj : j < L.length), i ≤ j → f L[i] ≤ f L[j] := by
  intro L h i j hi hj hij
  rcases Nat.lt_or_eq_of_le hij with h1 | h1
  · exact List.pairwise_iff_getElem.1 h i j hi hj h1
  · subst h1; exact Int.le_refl _
theorem count_lt {α : Type} (f : α → Int) (L : List α) (h : L.Pairwise (fun a b => f a ≤ f b)) (k : Nat) (hk : k < L.length) : L.countP (fun x => decide (f x < f L[k])) ≤ k := by
  have e : L.countP (fun x => decide (f x < f L[k])) = (L.take k).countP (fun x => decide (f x < f L[k])) + (L.drop k).countP (fun x => decide (f x < f L[k])) := by
    rw [← List.countP_append, List.take_append_drop]
  have z : (L.drop k).countP (fun x => decide (f x < f L[k])) = 0 := by
    rw [List.countP_eq_zero]
    intro x hx
    obtain ⟨i, hi, rfl⟩ := List.getElem_of_mem hx
    rw [List.getElem_drop]
    rw [List.length_drop] at hi
    have := pair_at h k (k + i) hk (by omega) (by omega)
    simp; omega
  have l := List.countP_le_length (l := L.take k) (p := fun x => decide (f x < f L[k]))
  rw [List.length_take] at l
  omega
theorem count_gt {α : Type} (f : α → Int) (L : List α) (h : L.Pairwise (fun a b => f a ≤ f b)) (k : Nat) (hk : k < L.length) : L.countP (fun x => decide (f L[k] < f x)) ≤ L.length - 1 - k := by
  have e : L.countP (fun x => decide (f L[k] < f x)) = (L.take (k + 1)).countP (fun x => decide (f L[k] < f x)) + (L.drop (k + 1)).countP (fun x => decide (f L[k] < f x)) := by
    rw [← List.countP_append, List.take_append_drop]
  have z : (L.take (k + 1)).countP (fun x => decide (f L[k] < f x)) = 0 := by
    rw [List.countP_eq_zero]
    intro x hx
    obtain ⟨i, hi, rfl⟩ := List.getElem_of_mem hx
    rw [List.getElem_take]
    rw [List.length_take] at hi
    have := pair_at h i k (by omega) hk (by omega)
    simp; omega
  have l := List.countP_le_length (l := L.drop (k + 1)) (p := fun x => decide (f L[k] < f x))
  rw [List.length_drop] at l
  omega
theorem count_with {α : Type} (f : α → Int) (L : List α) (k : Nat) (hk : k < L.length) : 0 < L.countP (fun x => decide (f x = f L[k])) := by
  rw [List.countP_pos_iff]
  exact ⟨L[k], List.getElem_mem hk, by simp⟩
/-- two sorted lists of the same members have the same keys at each place -/
theorem sorted_keys {α : Type} (f : α → Int) : ∀ {L M : List α}, L.Perm M → L.Pairwise (fun a b => f a ≤ f b) → M.Pairwise (fun a b => f a ≤ f b) → L.map f = M.map f := by
  intro L M hp h1 h2
  have p := hp.map f
  refine p.eq_of_pairwise (le := fun a b => a ≤ b) ?_ ?_ ?_
  · intro a b _ _ x y; omega
  · exact List.pairwise_map.2 h1
  · exact List.pairwise_map.2 h2
end Go.Gauge
namespace Go.Gauge
open Ieee
def num (x : Nat) : Bool := decide (rung x < inf)
theorem order_self (x : Nat) : (double.order x x == some .eq) = !nan x := by
  rw [order_eq]
  cases nan x
  · rw [sign_cmp_eq rfl]; rfl
  · rfl
theorem ne_self (x : Nat) : (double.order x x != some .eq) = nan x := by
  show (!(double.order x x == some .eq)) = _
  rw [order_self, Bool.not_not]
def maxF : Nat := 9218868437227405311
def minF : Nat := 18442240474082181119
theorem gt_max (x : Nat) : (double.order x maxF == some .gt) = (!nan x && !neg x && decide (inf ≤ rung x)) := by
  have n1 : nan maxF = false := by decide +kernel
  have l1 : lin maxF = 9218868437227405311 := by decide +kernel
  have hi : inf = 9218868437227405312 := rfl
  rw [order_eq, n1, Bool.or_false]
  cases hn : nan x
  · have : compare (lin x) (lin maxF) = if lin x < lin maxF then .lt else if lin x = lin maxF then .eq else .gt := rfl
    show (some (compare (lin x) (lin maxF)) == some Ordering.gt) = _
    rw [this, l1]
    unfold lin
    cases neg x
    · simp only [if_neg Bool.false_ne_true, Bool.not_false, Bool.true_and]
      by_cases h : inf ≤ rung x
      · rw [if_neg (by omega), if_neg (by omega), decide_eq_true h]; rfl
      · rw [decide_eq_false h]
        by_cases h1 : (rung x : Int) < 9218868437227405311
        · rw [if_pos h1]; rfl
        · rw [if_neg h1, if_pos (by omega)]; rfl
    · simp only [if_true, Bool.not_true, Bool.and_false, Bool.false_and]
      rw [if_pos (by omega)]; rfl
  · rfl
theorem lt_min (x : Nat) : (double.order x minF == some .lt) = (!nan x && neg x && decide (inf ≤ rung x)) := by
  have n1 : nan minF = false := by decide +kernel
  have l1 : lin minF = -9218868437227405311 := by decide +kernel
  have hi : inf = 9218868437227405312 := rfl
  rw [order_eq, n1, Bool.or_false]
  cases hn : nan x
  · have : compare (lin x) (lin minF) = if lin x < lin minF then .lt else if lin x = lin minF then .eq else .gt := rfl
    show (some (compare (lin x) (lin minF)) == some Ordering.lt) = _
    rw [this, l1]
    unfold lin
    cases neg x
    · simp only [if_neg Bool.false_ne_true, Bool.and_false, Bool.false_and]
      rw [if_neg (by omega), if_neg (by omega)]; rfl
    · simp only [if_true, Bool.not_false, Bool.true_and]
      by_cases h : inf ≤ rung x
      · rw [if_pos (by omega), decide_eq_true h]; rfl
      · rw [decide_eq_false h]
        by_cases h1 : (-(rung x : Int)) = -9218868437227405311
        · rw [if_neg (by omega), if_pos h1]; rfl
        · rw [if_neg (by omega), if_neg h1]; rfl
  · rfl
/-- the program's: no NaN, not endless -/
theorem num_prog (x : Nat) : (!(double.order x x != some .eq) && !((double.order x maxF == some .gt) || (double.order x minF == some .lt))) = num x := by
  rw [ne_self, gt_max, lt_min]
  unfold num nan
  by_cases h1 : inf < rung x
  · rw [decide_eq_true h1, show decide (rung x < inf) = false from decide_eq_false (by omega)]; rfl
  · rw [decide_eq_false h1]
    by_cases h2 : inf ≤ rung x
    · rw [decide_eq_true h2, show decide (rung x < inf) = false from decide_eq_false (by omega)]; cases neg x <;> rfl
    · rw [decide_eq_false h2, show decide (rung x < inf) = true from decide_eq_true (by omega)]; cases neg x <;> rfl
/-- the document's: with itself one, and itself less itself is nought -/
theorem sub_num {x : Nat} (h : num x = true) : double.sub x x = some 0 := by
  obtain ⟨m, k, e, _⟩ := read_num (of_decide_eq_true h)
  unfold Format.sub
  rw [e]
  unfold Datum.opposite Datum.sum
  simp only [Int.min_self, Int.sub_self]
  have z : signed (neg x) m (Int.toNat 0) + signed (!neg x) m (Int.toNat 0) = 0 := by
    rw [signed_eq, signed_eq]
    cases neg x <;> simp <;> omega
  rw [z]
  cases neg x <;> simp [Format.write, Format.nearest, Format.word]
theorem sub_inf {x : Nat} (h : rung x = inf) : double.sub x x = none := by
  unfold Format.sub
  rw [read_inf h]
  unfold Datum.opposite Datum.sum
  cases neg x <;> rfl
end Go.Gauge
namespace Go.Gauge
/-- by keys, equal keys by place -/
def Lex (f : Nat → Int) (a b : Nat) : Prop := f a < f b ∨ (f a = f b ∧ a < b)
theorem Lex.trans {f : Nat → Int} {a b c : Nat} (h : Lex f a b) (k : Lex f b c) : Lex f a c := by
  unfold Lex at *; omega
theorem lex_unique {f : Nat → Int} {L M : List Nat} (hp : L.Perm M) (h1 : L.Pairwise (Lex f)) (h2 : M.Pairwise (Lex f)) : L = M := by
  refine hp.eq_of_pairwise (le := Lex f) ?_ h1 h2
  intro a b _ _ x y
  unfold Lex at x y
  omega
theorem lex_insert {f : Nat → Int} {P : List Nat} {x k : Nat} (h : P.Pairwise (Lex f)) (hx : ∀ y ∈ P, y < x) (hk : k ≤ P.length) (h1 : ∀ y ∈ P.drop k, f x < f y) (h2 : ∀ h : 0 < k, ¬ f x < f (P[k - 1]'(by omega))) :
    (P.take k ++ x :: P.drop k).Pairwise (Lex f) ∧ (P.take k ++ x :: P.drop k).Perm (x :: P) := by
  refine ⟨?_, ?_⟩
  · rw [List.pairwise_append]
    have e : (P.take k ++ P.drop k).Pairwise (Lex f) := by rw [List.take_append_drop]; exact h
    rw [List.pairwise_append] at e
    refine ⟨e.1, List.pairwise_cons.2 ⟨fun y hy => .inl (h1 y hy), e.2.1⟩, ?_⟩
    intro a ha b hb
    rcases List.mem_cons.1 hb with rfl | hb
    · obtain ⟨i, hi, rfl⟩ := List.getElem_of_mem ha
      rw [List.length_take] at hi
      rw [List.getElem_take]
      have hlt := hx _ (List.getElem_mem (show i < P.length by omega))
      have hk1 := h2 (by omega)
      rcases Nat.lt_or_ge i (k - 1) with h3 | h3
      · have := List.pairwise_iff_getElem.1 h i (k - 1) (by omega) (by omega) h3
        unfold Lex at this ⊢
        omega
      · have e : i = k - 1 := by omega
        subst e
        unfold Lex
        omega
    · exact e.2.2 a ha b hb
  · refine (List.perm_middle).trans ?_
    rw [List.take_append_drop]
/-- neighbours in such a list -/
theorem lex_next {f : Nat → Int} {L : List Nat} (h : L.Pairwise (Lex f)) (i : Nat) (h0 : 0 < i) (hi : i < L.length) : ¬ f L[i] < f (L[i - 1]'(by omega)) ∧ (f (L[i - 1]'(by omega)) = f L[i] → L[i - 1]'(by omega) < L[i]) := by
  have := List.pairwise_iff_getElem.1 h (i - 1) i (by omega) hi (by omega)
  unfold Lex at this
  omega
end Go.Gauge
namespace Go.Gauge
theorem le_last {f : Nat → Int} {A : List Nat} (h : A.Pairwise (Lex f)) {x z : Nat} (hx : x ∈ A) (hz : A.getLast? = some z) : x = z ∨ Lex f x z := by
  obtain ⟨B, rfl⟩ : ∃ B, A = B ++ [z] := by
    have hne : A ≠ [] := by intro e; rw [e] at hz; cases hz
    refine ⟨A.dropLast, ?_⟩
    have e := List.getLast?_eq_some_getLast hne
    rw [e] at hz
    have := List.dropLast_concat_getLast hne
    rw [Option.some.inj hz] at this
    exact this.symm
  rcases List.mem_append.1 hx with hx | hx
  · exact .inr ((List.pairwise_append.1 h).2.2 x hx z (by simp))
  · exact .inl (List.mem_singleton.1 hx)
theorem head_le {f : Nat → Int} {A : List Nat} (h : A.Pairwise (Lex f)) {y z : Nat} (hy : y ∈ A) (hz : A.head? = some z) : z = y ∨ Lex f z y := by
  cases A with
  | nil => cases hy
  | cons a A =>
    have e : a = z := Option.some.inj hz
    subst e
    rcases List.mem_cons.1 hy with rfl | hy
    · exact .inl rfl
    · exact .inr ((List.pairwise_cons.1 h).1 y hy)
theorem some_last {A : List Nat} {x : Nat} (h : x ∈ A) : ∃ z, A.getLast? = some z := by
  have hne : A ≠ [] := by intro e; rw [e] at h; cases h
  exact ⟨_, List.getLast?_eq_some_getLast hne⟩
theorem some_head {A : List Nat} {x : Nat} (h : x ∈ A) : ∃ z, A.head? = some z := by
  cases A with
  | nil => cases h
  | cons a A => exact ⟨a, rfl⟩
theorem cross {f : Nat → Int} {A B : List Nat} (hA : A.Pairwise (Lex f)) (hB : B.Pairwise (Lex f)) (h : ∀ x y, A.getLast? = some x → B.head? = some y → Lex f x y) : ∀ x ∈ A, ∀ y ∈ B, Lex f x y := by
  intro x hx y hy
  obtain ⟨a, ha⟩ := some_last hx
  obtain ⟨b, hb⟩ := some_head hy
  have h0 := h a b ha hb
  rcases le_last hA hx ha with rfl | h1
  · rcases head_le hB hy hb with rfl | h2
    · exact h0
    · exact h0.trans h2
  · rcases head_le hB hy hb with rfl | h2
    · exact h1.trans h0
    · exact (h1.trans h0).trans h2
theorem merge_halves {f : Nat → Int} {A1 A2 B1 B2 L R : List Nat} (hA : (A1 ++ A2).Pairwise (Lex f)) (hB : (B1 ++ B2).Pairwise (Lex f))
    (h1 : ∀ x y, A1.getLast? = some x → B2.head? = some y → Lex f x y) (h2 : ∀ x y, B1.getLast? = some x → A2.head? = some y → Lex f x y)
    (pL : L.Perm (A1 ++ B1)) (sL : L.Pairwise (Lex f)) (pR : R.Perm (A2 ++ B2)) (sR : R.Pairwise (Lex f)) :
    (L ++ R).Pairwise (Lex f) ∧ (L ++ R).Perm ((A1 ++ A2) ++ (B1 ++ B2)) := by
  obtain ⟨a1, a2, a3⟩ := List.pairwise_append.1 hA
  obtain ⟨b1, b2, b3⟩ := List.pairwise_append.1 hB
  have c1 := cross a1 b2 h1
  have c2 := cross b1 a2 h2
  refine ⟨List.pairwise_append.2 ⟨sL, sR, fun x hx y hy => ?_⟩, ?_⟩
  · rcases List.mem_append.1 (pL.mem_iff.1 hx) with hx | hx <;> rcases List.mem_append.1 (pR.mem_iff.1 hy) with hy | hy
    · exact a3 x hx y hy
    · exact c1 x hx y hy
    · exact c2 x hx y hy
    · exact b3 x hx y hy
  · refine (List.Perm.append pL pR).trans ?_
    rw [List.append_assoc, List.append_assoc]
    refine List.Perm.append_left A1 ?_
    rw [← List.append_assoc, ← List.append_assoc]
    exact List.Perm.append_right B2 List.perm_append_comm
end Go.Gauge
