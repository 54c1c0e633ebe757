/- The gauge's walks: endless, number, order of two floats, bits, the document's. -/
import Derived.Test.YtjlghmjngiegaaaW1
namespace Go.Proofs.Ytjlghmjngiegaaa
open Go Go.Gauge Go.RowKit
theorem rung_rung (x : Nat) : rung (rung x) = rung x := Nat.mod_mod _ _
theorem neg_rung (x : Nat) : neg (rung x) = false := by
  unfold neg
  rw [Nat.div_eq_of_lt (show rung x < S from rung_lt x)]; rfl
theorem nan_rung (x : Nat) : nan (rung x) = nan x := by unfold nan; rw [rung_rung]
set_option maxHeartbeats 400000 in
theorem abs_any (x : Nat) (hx : x < 18446744073709551616) (w : World) : Calls Try.prog 46 #[.float .f64 x] w fun e w' => e = .returned (.float .f64 (rung x)) ∧ w = w' := by
  have hb := Lib.hid (abs_bits x hx)
  clear hx
  go_enter Try.func46, Try.ntmps46
  go_wp2_with fail
  rw [call35]
  go_wp2_with fail
  rw [call38]
  go_wp2
  go_ret
  refine ⟨?_, rfl⟩
  rw [hb.out]
  rfl
def infB (x : Nat) : Bool := !nan x && decide (inf ≤ rung x)
set_option maxHeartbeats 400000 in
theorem isInf_any (x : Nat) (hx : x < 18446744073709551616) (w : World) : Calls Try.prog 42 #[.float .f64 x, .int .i64 0] w fun e w' => e = .returned (.bool (infB x)) ∧ w = w' := by
  have hA := Lib.hid (fun w => abs_any x hx w)
  have hg : (FloatKind.f64.format.order (rung x) 9218868437227405311 == some .gt) = infB x := by
    have := gt_max (rung x)
    rw [rung_rung, neg_rung, nan_rung, Bool.not_false, Bool.and_true] at this
    exact this
  have HG := Lib.hid hg
  clear hg hx
  go_enter Try.func42, Try.ntmps42
  go_wp2_with (go_at_call 46; refine (hA.out _).mono ?_; rintro e w' ⟨rfl, rfl⟩)
  go_ret
  exact ⟨ret_b HG.out, rfl⟩
theorem num_eq (x : Nat) : num x = (!nan x && !infB x) := by
  unfold infB num nan
  by_cases h1 : inf < rung x
  · rw [decide_eq_true h1, decide_eq_false (by omega)]; rfl
  · rw [decide_eq_false h1]
    by_cases h2 : inf ≤ rung x
    · rw [decide_eq_true h2, decide_eq_false (by omega)]; rfl
    · rw [decide_eq_false h2, decide_eq_true (by omega)]; rfl
set_option maxHeartbeats 400000 in
theorem number_any (x : Nat) (hx : x < 18446744073709551616) (w : World) : Calls Try.prog 31 #[.float .f64 x] w fun e w' => e = .returned (.bool (num x)) ∧ w = w' := by
  have hN := Lib.hid (fun w => isNaN_any x w)
  have hI := Lib.hid (fun w => isInf_any x hx w)
  rw [num_eq]
  clear hx
  generalize nan x = b at hN ⊢
  generalize infB x = c at hI ⊢
  cases b
  all_goals
    go_enter Try.func31, Try.ntmps31
    go_wp2_with (first | (go_at_call 34; refine (hN.out _).mono ?_; rintro e w' ⟨rfl, rfl⟩) | (go_at_call 42; refine (hI.out _).mono ?_; rintro e w' ⟨rfl, rfl⟩))
    go_ret
    exact ⟨ret_b (by simp), rfl⟩
theorem keyCmp_lt {x y : Nat} (h : key x < key y) : keyCmp x y = -1 := by unfold keyCmp; rw [if_pos h]
theorem keyCmp_gt {x y : Nat} (h : key y < key x) : keyCmp x y = 1 := by unfold keyCmp; rw [if_neg (by omega), if_pos h]
theorem keyCmp_eq0 {x y : Nat} (h : key x = key y) : keyCmp x y = 0 := by unfold keyCmp; rw [if_neg (by omega), if_neg (by omega)]
set_option maxHeartbeats 400000 in
theorem cmp_any (x y : Nat) (hx : x < 18446744073709551616) (hy : y < 18446744073709551616) (w : World) : Calls Try.prog 16 #[.float .f64 x, .float .f64 y] w fun e w' => e = .returned (.int .i64 (keyCmp x y)) ∧ w = w' := by
  have hX := Lib.hid (fun w => key_any x hx w)
  have hY := Lib.hid (fun w => key_any y hy w)
  clear hx hy
  rcases Int.lt_trichotomy (key x) (key y) with h | h | h
  · have HC := Lib.hid (keyCmp_lt h)
    generalize key x = a at *
    generalize key y = b at *
    have h1 : decide (a < b) = true := by simpa using h
    go_enter Try.func16, Try.ntmps16
    go_wp2_with fail
    refine (hX.out _).mono ?_
    rintro e w' ⟨rfl, rfl⟩
    go_wp2_with fail
    refine (hY.out _).mono ?_
    rintro e w' ⟨rfl, rfl⟩
    go_wp2
    go_ret
    exact ⟨ret_i HC.out.symm, rfl⟩
  · have HC := Lib.hid (keyCmp_eq0 h)
    rw [← h] at hY
    clear h
    generalize key x = a at *
    go_enter Try.func16, Try.ntmps16
    go_wp2_with fail
    refine (hX.out _).mono ?_
    rintro e w' ⟨rfl, rfl⟩
    go_wp2_with fail
    refine (hY.out _).mono ?_
    rintro e w' ⟨rfl, rfl⟩
    go_wp2
    go_ret
    exact ⟨ret_i HC.out.symm, rfl⟩
  · have HC := Lib.hid (keyCmp_gt h)
    generalize key x = a at *
    generalize key y = b at *
    have h1 : decide (a < b) = false := by simp; omega
    go_enter Try.func16, Try.ntmps16
    go_wp2_with fail
    refine (hX.out _).mono ?_
    rintro e w' ⟨rfl, rfl⟩
    go_wp2_with fail
    refine (hY.out _).mono ?_
    rintro e w' ⟨rfl, rfl⟩
    go_wp2
    go_ret
    exact ⟨ret_i HC.out.symm, rfl⟩
end Go.Proofs.Ytjlghmjngiegaaa
