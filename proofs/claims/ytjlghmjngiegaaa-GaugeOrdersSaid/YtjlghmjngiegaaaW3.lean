/- The gauge's walks: bits, the document's rank and order, number, rates. -/
import Derived.Test.YtjlghmjngiegaaaW2
namespace Go.Proofs.Ytjlghmjngiegaaa
open Go Go.Gauge Go.RowKit
set_option maxHeartbeats 400000 in
theorem nanf_any (w : World) : Calls Try.prog 36 #[] w fun e w' => e = .returned (.float .f64 canonNan) ∧ w = w' := by
  go_enter Try.func36, Try.ntmps36
  go_wp2_with fail
  rw [call38]
  go_wp2
  go_ret
  exact ⟨rfl, rfl⟩
set_option maxHeartbeats 400000 in
theorem bits_any (x : Nat) (w : World) : Calls Try.prog 17 #[.float .f64 x] w fun e w' => e = .returned (.int .u64 (canon x : Nat)) ∧ w = w' := by
  have hN := Lib.hid (fun w => isNaN_any x w)
  have hF := Lib.hid nanf_any
  cases hn : nan x
  · have HC := Lib.hid (show canon x = x by unfold canon; rw [hn]; rfl)
    rw [hn] at hN
    clear hn
    go_enter Try.func17, Try.ntmps17
    go_wp2_with (go_at_call 34; refine (hN.out _).mono ?_; rintro e w' ⟨rfl, rfl⟩)
    rw [call35]
    go_wp2
    go_ret
    exact ⟨ret_i (by rw [HC.out]), rfl⟩
  · have HC := Lib.hid (show canon x = canonNan by unfold canon; rw [hn]; rfl)
    rw [hn] at hN
    clear hn
    go_enter Try.func17, Try.ntmps17
    go_wp2_with (first | (go_at_call 34; refine (hN.out _).mono ?_; rintro e w' ⟨rfl, rfl⟩) | (go_at_call 36; refine (hF.out _).mono ?_; rintro e w' ⟨rfl, rfl⟩))
    rw [call35]
    go_wp2
    go_ret
    exact ⟨ret_i (by rw [HC.out]), rfl⟩
set_option maxHeartbeats 400000 in
theorem rbits_any (x : Nat) (w : World) : Calls Try.prog 19 #[.float .f64 x] w fun e w' => e = .returned (.int .u64 (canon x : Nat)) ∧ w = w' := by
  have hne : (FloatKind.f64.format.order x x != some .eq) = nan x := ne_self x
  cases hn : nan x
  · have HC := Lib.hid (show canon x = x by unfold canon; rw [hn]; rfl)
    rw [hn] at hne
    clear hn
    go_enter Try.func19, Try.ntmps19
    go_wp2_with fail
    rw [call35]
    go_wp2
    go_ret
    exact ⟨ret_i (by rw [HC.out]), rfl⟩
  · have HC := Lib.hid (show canon x = canonNan by unfold canon; rw [hn]; rfl)
    rw [hn] at hne
    clear hn
    go_enter Try.func19, Try.ntmps19
    go_wp2
    go_ret
    exact ⟨ret_i (by rw [HC.out]; rfl), rfl⟩
def sameB (x y : Nat) : Bool := canon x == canon y
set_option maxHeartbeats 400000 in
theorem same_any (x y : Nat) (w : World) : Calls Try.prog 11 #[.float .f64 x, .float .f64 y] w fun e w' => e = .returned (.bool (sameB x y)) ∧ w = w' := by
  have hX := Lib.hid (fun w => rbits_any x w)
  have hY := Lib.hid (fun w => rbits_any y w)
  have HS := Lib.hid (show sameB x y = (canon x == canon y) from rfl)
  generalize sameB x y = r at *
  generalize canon x = a at *
  generalize canon y = b at *
  go_enter Try.func11, Try.ntmps11
  go_wp2_with fail
  refine (hX.out _).mono ?_
  rintro e w' ⟨rfl, rfl⟩
  go_wp2_with fail
  refine (hY.out _).mono ?_
  rintro e w' ⟨rfl, rfl⟩
  go_wp2
  go_ret
  refine ⟨ret_b ?_, rfl⟩
  rw [HS.out, Bool.eq_iff_iff, beq_iff_eq, beq_iff_eq]
  omega
theorem of_any (n : Int) (w : World) : Calls Try.prog 20 #[.int .u64 n] w fun e w' => e = .returned (.float .f64 n.toNat) ∧ w = w' := by
  go_enter Try.func20, Try.ntmps20
  go_wp2_with fail
  rw [call38]
  go_wp2
  go_ret
  exact ⟨rfl, rfl⟩
theorem rof_any (n : Int) (w : World) : Calls Try.prog 21 #[.int .u64 n] w fun e w' => e = .returned (.float .f64 n.toNat) ∧ w = w' := by
  go_enter Try.func21, Try.ntmps21
  go_wp2_with fail
  rw [call38]
  go_wp2
  go_ret
  exact ⟨rfl, rfl⟩
/-! rates -/
def rateC (a b : Int) : Nat := match Ieee.double.div (floatOfInt .f64 a) (floatOfInt .f64 b) with | some q => canon q | none => canonNan
def RatePost (a b : Int) (w : World) (e : Ending) (w' : World) : Prop := ∃ r n, e = .returned (.float .f64 r) ∧ canon r = rateC a b ∧ (Ieee.double.div (floatOfInt .f64 a) (floatOfInt .f64 b) = none → nan r = true ∧ r < 18446744073709551616) ∧ (∀ q, Ieee.double.div (floatOfInt .f64 a) (floatOfInt .f64 b) = some q → r = q) ∧ w' = w.drewN n
set_option maxHeartbeats 400000 in
theorem rate_any (a b : Int) (w : World) : Calls Try.prog 12 #[.int .i64 a, .int .i64 b] w (RatePost a b w) := by
  cases h : Ieee.double.div (floatOfInt .f64 a) (floatOfInt .f64 b) with
  | none =>
    have H := Lib.hid h
    clear h
    go_enter Try.func12, Try.ntmps12
    go_wp2
    rw [run_quo_nan _ _ _ _ _ H.out]
    go_wp2
    go_ret
    obtain ⟨h1, h2⟩ := nanOf_nan (floatOfInt .f64 a) (floatOfInt .f64 b) (w.tape w.drawn (.nanBits .f64 (floatOfInt .f64 a) (floatOfInt .f64 b)))
    refine ⟨_, 1, rfl, ?_, fun _ => ⟨h1, h2⟩, ?_, rfl⟩
    · unfold rateC canon; rw [H.out, h1]; rfl
    · intro q hq; rw [H.out] at hq; cases hq
  | some q =>
    have H := Lib.hid h
    clear h
    go_enter Try.func12, Try.ntmps12
    go_wp2
    rw [run_quo _ _ _ _ _ _ H.out]
    go_wp2
    go_ret
    refine ⟨_, 0, rfl, ?_, ?_, ?_, rfl⟩
    · unfold rateC; rw [H.out]
    · intro hq; rw [H.out] at hq; cases hq
    · intro q' hq; rw [H.out] at hq; exact Option.some.inj hq
set_option maxHeartbeats 400000 in
theorem rrate_any (a b : Int) (w : World) : Calls Try.prog 13 #[.int .i64 a, .int .i64 b] w (RatePost a b w) := by
  cases h : Ieee.double.div (floatOfInt .f64 a) (floatOfInt .f64 b) with
  | none =>
    have H := Lib.hid h
    clear h
    go_enter Try.func13, Try.ntmps13
    go_wp2
    rw [run_quo_nan _ _ _ _ _ H.out]
    go_wp2
    go_ret
    obtain ⟨h1, h2⟩ := nanOf_nan (floatOfInt .f64 a) (floatOfInt .f64 b) (w.tape w.drawn (.nanBits .f64 (floatOfInt .f64 a) (floatOfInt .f64 b)))
    refine ⟨_, 1, rfl, ?_, fun _ => ⟨h1, h2⟩, ?_, rfl⟩
    · unfold rateC canon; rw [H.out, h1]; rfl
    · intro q hq; rw [H.out] at hq; cases hq
  | some q =>
    have H := Lib.hid h
    clear h
    go_enter Try.func13, Try.ntmps13
    go_wp2
    rw [run_quo _ _ _ _ _ _ H.out]
    go_wp2
    go_ret
    refine ⟨_, 0, rfl, ?_, ?_, ?_, rfl⟩
    · unfold rateC; rw [H.out]
    · intro hq; rw [H.out] at hq; cases hq
    · intro q' hq; rw [H.out] at hq; exact Option.some.inj hq
/-! the document's rank, order, number -/
theorem order_nn {x y : Nat} (hx : nan x = false) (hy : nan y = false) : Ieee.double.order x y = some (compare (lin x) (lin y)) := by rw [order_eq, hx, hy]; rfl
theorem o_lt {x y : Nat} (hx : nan x = false) (hy : nan y = false) : (FloatKind.f64.format.order x y == some .lt) = decide (lin x < lin y) := by
  show (Ieee.double.order x y == some .lt) = _
  rw [order_nn hx hy]
  rcases Int.lt_trichotomy (lin x) (lin y) with h | h | h
  · rw [sign_cmp_lt h, decide_eq_true h]; rfl
  · rw [sign_cmp_eq h.symm, decide_eq_false (by omega)]; rfl
  · rw [sign_cmp_gt h, decide_eq_false (by omega)]; rfl
theorem o_eq {x y : Nat} (hx : nan x = false) (hy : nan y = false) : (FloatKind.f64.format.order x y == some .eq) = decide (lin x = lin y) := by
  show (Ieee.double.order x y == some .eq) = _
  rw [order_nn hx hy]
  rcases Int.lt_trichotomy (lin x) (lin y) with h | h | h
  · rw [sign_cmp_lt h, decide_eq_false (by omega)]; rfl
  · rw [sign_cmp_eq h.symm, decide_eq_true h]; rfl
  · rw [sign_cmp_gt h, decide_eq_false (by omega)]; rfl
theorem o_gt {x y : Nat} (hx : nan x = false) (hy : nan y = false) : (FloatKind.f64.format.order x y == some .gt) = decide (lin y < lin x) := by
  show (Ieee.double.order x y == some .gt) = _
  rw [order_nn hx hy]
  rcases Int.lt_trichotomy (lin x) (lin y) with h | h | h
  · rw [sign_cmp_lt h, decide_eq_false (by omega)]; rfl
  · rw [sign_cmp_eq h.symm, decide_eq_false (by omega)]; rfl
  · rw [sign_cmp_gt h, decide_eq_true h]; rfl
theorem nan_zero : nan 0 = false := by decide +kernel
theorem lin_zero : lin 0 = 0 := by decide +kernel
theorem lin_neg {x : Nat} (h : lin x < 0) : neg x = true ∧ 0 < rung x := by
  unfold lin at h
  cases hn : neg x <;> rw [hn] at h <;> simp at h ⊢ <;> omega
theorem word_zero {x : Nat} (hx : x < 18446744073709551616) (h : lin x = 0) : x = 0 ∨ x = 9223372036854775808 := by
  have hw := word_eq hx
  have hz : rung x = 0 := by unfold lin at h; split at h <;> omega
  rw [hz] at hw
  cases hn : neg x <;> rw [hn] at hw
  · exact .inl hw
  · exact .inr hw
theorem div_pz : Ieee.double.div 4607182418800017408 0 = some 9218868437227405312 := by decide +kernel
theorem div_nz : Ieee.double.div 4607182418800017408 9223372036854775808 = some 18442240474082181120 := by decide +kernel
set_option maxHeartbeats 400000 in
theorem rank_any (x : Nat) (hx : x < 18446744073709551616) (w : World) : Calls Try.prog 37 #[.float .f64 x] w fun e w' => e = .returned (.int .i64 (rank x)) ∧ w = w' := by
  have hne : (FloatKind.f64.format.order x x != some .eq) = nan x := ne_self x
  cases hn : nan x
  · rw [hn] at hne
    have hlt := o_lt hn nan_zero
    have heq := o_eq hn nan_zero
    rw [lin_zero] at hlt heq
    rcases Int.lt_trichotomy (lin x) 0 with h | h | h
    · rw [decide_eq_true h] at hlt
      have HR := Lib.hid (show rank x = 1 by unfold rank; rw [hn, if_neg (by decide), if_pos h])
      clear hn heq h hx
      go_enter Try.func37, Try.ntmps37
      go_wp2
      go_ret
      exact ⟨ret_i HR.out.symm, rfl⟩
    · rw [decide_eq_false (by omega)] at hlt
      rw [decide_eq_true h] at heq
      rcases word_zero hx h with rfl | rfl
      · have HR := Lib.hid (show rank 0 = 3 by decide +kernel)
        have hd : ∀ t w, (binOp .quo t (.float .f64 4607182418800017408) (.float .f64 0)).run Try.prog w = .ok (.float .f64 9218868437227405312) w := fun t w => run_quo _ _ _ _ _ _ div_pz
        have hq : (FloatKind.f64.format.order 9218868437227405312 0 == some .lt) = false := by decide +kernel
        clear hn h hx
        go_enter Try.func37, Try.ntmps37
        go_wp2
        go_ret
        exact ⟨ret_i HR.out.symm, rfl⟩
      · have HR := Lib.hid (show rank 9223372036854775808 = 2 by decide +kernel)
        have hd : ∀ t w, (binOp .quo t (.float .f64 4607182418800017408) (.float .f64 9223372036854775808)).run Try.prog w = .ok (.float .f64 18442240474082181120) w := fun t w => run_quo _ _ _ _ _ _ div_nz
        have hq : (FloatKind.f64.format.order 18442240474082181120 0 == some .lt) = true := by decide +kernel
        clear hn h hx
        go_enter Try.func37, Try.ntmps37
        go_wp2
        go_ret
        exact ⟨ret_i HR.out.symm, rfl⟩
    · rw [decide_eq_false (by omega)] at hlt
      rw [decide_eq_false (by omega)] at heq
      have HR := Lib.hid (show rank x = 4 by unfold rank; rw [hn, if_neg (by decide), if_neg (by omega), if_neg (by omega)])
      clear hn h hx
      go_enter Try.func37, Try.ntmps37
      go_wp2
      go_ret
      exact ⟨ret_i HR.out.symm, rfl⟩
  · rw [hn] at hne
    have HR := Lib.hid (show rank x = 0 by unfold rank; rw [hn, if_pos rfl])
    clear hn
    go_enter Try.func37, Try.ntmps37
    go_wp2
    go_ret
    exact ⟨ret_i HR.out.symm, rfl⟩
end Go.Proofs.Ytjlghmjngiegaaa
