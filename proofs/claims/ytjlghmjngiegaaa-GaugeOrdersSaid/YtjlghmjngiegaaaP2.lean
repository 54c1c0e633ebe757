/- A quotient that is none, the number in the middle, a float's key as the walk spells it. Plain Lean, no program. -/
import Derived.WalkLawsBesides
import Derived.Laws.FloatArith
import Derived.Laws.NewFold
import Derived.Sort.Statements
import Derived.Laws.Bits64
import Derived.Laws.BitsAllLaws
import Derived.Test.YtjlghmjngiegaaaP1
namespace Go.Gauge
open Go
def nanOf (x y t : Nat) : Nat := (Question.nanBits .f64 x y).cut t
theorem nanOf_eq (x y t : Nat) : nanOf x y t = (t % 2) * 9223372036854775808 + (9218868437227405312 + 1 + (t / 2) % 4503599627370495) := by
  show (t % 2) * 2 ^ 63 + 0x7ff0000000000000 + 1 + (t / 2) % (2 ^ 52 - 1) = _
  omega
theorem nanOf_nan (x y t : Nat) : nan (nanOf x y t) = true ∧ nanOf x y t < 18446744073709551616 := by
  rw [nanOf_eq]
  have h1 : t % 2 < 2 := Nat.mod_lt _ (by decide)
  have h2 : t / 2 % 4503599627370495 < 4503599627370495 := Nat.mod_lt _ (by decide)
  refine ⟨?_, by omega⟩
  have e : rung ((t % 2) * 9223372036854775808 + (9218868437227405312 + 1 + (t / 2) % 4503599627370495)) = 9218868437227405312 + 1 + (t / 2) % 4503599627370495 := by
    unfold rung
    show _ % 9223372036854775808 = _
    omega
  unfold nan
  rw [e]
  have : inf = 9218868437227405312 := rfl
  exact decide_eq_true (by omega)
theorem run_quo_nan (P : Program) (w : World) (t : TypeId) (x y : Nat) (h : Ieee.double.div x y = none) :
    (binOp .quo t (.float .f64 x) (.float .f64 y)).run P w = .ok (.float .f64 (nanOf x y (w.tape w.drawn (.nanBits .f64 x y)))) w.drew := by
  simp [binOp, Op.floatArith, FloatKind.format, h, nanOf, Question.forced]
theorem run_quo (P : Program) (w : World) (t : TypeId) (x y r : Nat) (h : Ieee.double.div x y = some r) :
    (binOp .quo t (.float .f64 x) (.float .f64 y)).run P w = .ok (.float .f64 r) w := by
  simp [binOp, Op.floatArith, FloatKind.format, h]
end Go.Gauge
namespace Go.Gauge
open Go
def ltKey (x y : Nat) : Bool := decide (keyCmp x y < 0)
theorem ltKey_iff (x y : Nat) : ltKey x y = decide (key x < key y) := by
  unfold ltKey keyCmp
  rw [decide_eq_decide]
  repeat' split
  all_goals omega
theorem swoKey : Sort.SWO ltKey where
  irrefl x := by rw [ltKey_iff]; simp
  trans x y z h1 h2 := by rw [ltKey_iff] at *; simp at *; omega
  ntrans x y z h1 h2 := by rw [ltKey_iff] at *; simp at *; omega
theorem sorted_list {d d' : Array Nat} (hp : Sort.PermIn 0 d.size d d') (hs : Sort.SortedIn ltKey 0 d.size d') : d'.toList.Perm d.toList ∧ d'.toList.Pairwise (fun a b => key a ≤ key b) := by
  obtain ⟨h1, _, h3⟩ := hp
  refine ⟨?_, ?_⟩
  · have e1 : d'.extract 0 d.size = d' := by rw [← h1]; simp
    have e2 : d.extract 0 d.size = d := by simp
    rw [e1, e2] at h3
    exact h3
  · rw [List.pairwise_iff_getElem]
    intro i j hi hj hij
    have hi' : i < d'.size := by simpa using hi
    have hj' : j < d'.size := by simpa using hj
    have h := hs i j (Nat.zero_le _) hij (by omega)
    rw [ltKey_iff, getElem!_pos d' i hi', getElem!_pos d' j hj'] at h
    have h2 := of_decide_eq_false h
    show key (d'.toList[i]) ≤ key (d'.toList[j])
    rw [Array.getElem_toList, Array.getElem_toList]
    omega
theorem cmp_ahead (x m : Nat) : decide (keyCmp x m < 0) = decide (key x < key m) := ltKey_iff x m
theorem cmp_behind (x m : Nat) : decide (0 < keyCmp x m) = decide (key m < key x) := by
  unfold keyCmp
  rw [decide_eq_decide]
  repeat' split
  all_goals omega
theorem cmp_with (x m : Nat) : decide (keyCmp x m = 0) = decide (key x = key m) := by
  unfold keyCmp
  rw [decide_eq_decide]
  repeat' split
  all_goals omega
theorem middle_law {N L : List Nat} (hp : L.Perm N) (hs : L.Pairwise (fun a b => key a ≤ key b)) (h0 : (L.length - 1) / 2 < L.length) :
    2 * N.countP (fun x => decide (keyCmp x L[(L.length - 1) / 2] < 0)) < N.length ∧ 2 * N.countP (fun x => decide (0 < keyCmp x L[(L.length - 1) / 2])) ≤ N.length ∧ 0 < N.countP (fun x => decide (keyCmp x L[(L.length - 1) / 2] = 0)) := by
  have hl := hp.length_eq
  simp only [cmp_ahead, cmp_behind, cmp_with]
  rw [← hp.countP_eq, ← hp.countP_eq, ← hp.countP_eq]
  have a := count_lt key L hs _ h0
  have b := count_gt key L hs _ h0
  have c := count_with key L _ h0
  exact ⟨by omega, by omega, c⟩
end Go.Gauge
namespace Go.Gauge
open Go
theorem xor_low (r : Nat) (h : r < 9223372036854775808) : (9223372036854775808 + r) ^^^ 9223372036854775807 = 9223372036854775808 + (9223372036854775807 - r) := by
  have e0 : (9223372036854775808 : Nat) = 2 ^ 63 := rfl
  have e1 : (9223372036854775807 : Nat) = 2 ^ 63 - 1 := rfl
  have e2 : 9223372036854775807 - r = 2 ^ 63 - (r + 1) := by omega
  rw [e2]
  apply Nat.eq_of_testBit_eq
  intro i
  rw [Nat.testBit_xor, e1, Nat.testBit_two_pow_sub_one, e0]
  rcases Nat.lt_trichotomy i 63 with h1 | h1 | h1
  · rw [Nat.testBit_two_pow_add_gt h1, Nat.testBit_two_pow_add_gt h1, Nat.testBit_two_pow_sub_succ h]
    simp [h1]
  · subst h1
    rw [Nat.testBit_two_pow_add_eq, Nat.testBit_two_pow_add_eq, Nat.testBit_lt_two_pow h, Nat.testBit_lt_two_pow (show 2 ^ 63 - (r + 1) < 2 ^ 63 by omega)]
    rfl
  · have hp : 2 ^ 64 ≤ 2 ^ i := Nat.pow_le_pow_right (by decide) h1
    rw [Nat.testBit_lt_two_pow (show 2 ^ 63 + r < 2 ^ i by omega), Nat.testBit_lt_two_pow (show 2 ^ 63 + (2 ^ 63 - (r + 1)) < 2 ^ i by omega)]
    simp; omega
theorem key_neg (r : Nat) (h : r < 9223372036854775808) : bits .xor .i64 ((r : Int) - 9223372036854775808) 9223372036854775807 = -(r : Int) - 1 := by
  show IntKind.i64.wrap ((BitVec.ofInt 64 ((r : Int) - 9223372036854775808) ^^^ BitVec.ofInt 64 9223372036854775807).toNat : Int) = _
  have h1 : (BitVec.ofInt 64 ((r : Int) - 9223372036854775808)).toNat = 9223372036854775808 + r := by
    rw [BitVec.toNat_ofInt]; omega
  have h2 : (BitVec.ofInt 64 9223372036854775807).toNat = 9223372036854775807 := by decide
  rw [BitVec.toNat_xor, h1, h2, xor_low r h]
  simp [IntKind.wrap, IntKind.bits, IntKind.signed]
  omega
theorem key_pos (r : Nat) (h : r < 9223372036854775808) : bits .xor .i64 (r : Int) 0 = r := by
  show IntKind.i64.wrap ((BitVec.ofInt 64 (r : Int) ^^^ BitVec.ofInt 64 0).toNat : Int) = _
  have h1 : (BitVec.ofInt 64 (r : Int)).toNat = r := by
    rw [BitVec.toNat_ofInt]; omega
  have h2 : (BitVec.ofInt 64 0).toNat = 0 := by decide
  rw [BitVec.toNat_xor, h1, h2, Nat.xor_zero]
  simp [IntKind.wrap, IntKind.bits, IntKind.signed]
  omega
theorem abs_bits (x : Nat) (h : x < 18446744073709551616) : bits .andNot .u64 (x : Int) 9223372036854775808 = ((x % 9223372036854775808 : Nat) : Int) := by
  show IntKind.u64.wrap ((BitVec.ofInt 64 (x : Int) &&& ~~~(BitVec.ofInt 64 9223372036854775808)).toNat : Int) = _
  have h1 : (BitVec.ofInt 64 (x : Int)).toNat = x := by
    rw [BitVec.toNat_ofInt]; omega
  have h2 : (~~~(BitVec.ofInt 64 9223372036854775808)).toNat = 2 ^ 63 - 1 := by decide
  rw [BitVec.toNat_and, h1, h2, Nat.and_two_pow_sub_one_eq_mod, IntKind.wrap_u64]
  omega
end Go.Gauge
