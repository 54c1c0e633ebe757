/- The gauge's walks: the document's order of two floats, its numbers. -/
import Derived.Test.YtjlghmjngiegaaaW3
namespace Go.Proofs.Ytjlghmjngiegaaa
open Go Go.Gauge Go.RowKit
theorem rank_nan {x : Nat} : rank x = 0 ↔ nan x = true := by
  unfold rank
  cases nan x
  · simp; repeat' split
    all_goals omega
  · simp
set_option maxHeartbeats 400000 in
theorem rcmp_any (x y : Nat) (hx : x < 18446744073709551616) (hy : y < 18446744073709551616) (w : World) : Calls Try.prog 18 #[.float .f64 x, .float .f64 y] w fun e w' => e = .returned (.int .i64 (refCmp x y)) ∧ w = w' := by
  have hX := Lib.hid (fun w => rank_any x hx w)
  have hY := Lib.hid (fun w => rank_any y hy w)
  clear hx hy
  have HD := Lib.hid (show refCmp x y = if rank x < rank y then -1 else if rank y < rank x then 1 else if rank x = 0 ∨ lin x = lin y then 0 else if lin x < lin y then -1 else 1 from rfl)
  rcases Int.lt_trichotomy (rank x) (rank y) with h | h | h
  · rw [if_pos h] at HD
    generalize rank x = a at *
    generalize rank y = b at *
    have h1 : decide (a < b) = true := by simpa using h
    go_enter Try.func18, Try.ntmps18
    go_wp2_with fail
    refine (hX.out _).mono ?_
    rintro e w' ⟨rfl, rfl⟩
    go_wp2_with fail
    refine (hY.out _).mono ?_
    rintro e w' ⟨rfl, rfl⟩
    go_wp2
    go_ret
    exact ⟨ret_i HD.out.symm, rfl⟩
  · rw [if_neg (by omega), if_neg (by omega)] at HD
    by_cases h0 : rank x = 0
    · rw [if_pos (.inl h0)] at HD
      rw [← h, h0] at hY
      rw [h0] at hX
      clear h h0
      go_enter Try.func18, Try.ntmps18
      go_wp2_with fail
      refine (hX.out _).mono ?_
      rintro e w' ⟨rfl, rfl⟩
      go_wp2_with fail
      refine (hY.out _).mono ?_
      rintro e w' ⟨rfl, rfl⟩
      go_wp2
      go_ret
      exact ⟨ret_i HD.out.symm, rfl⟩
    · have nx : nan x = false := by
        cases e : nan x
        · rfl
        · exact absurd (rank_nan.2 e) h0
      have ny : nan y = false := by
        cases e : nan y
        · rfl
        · exact absurd (h.trans (rank_nan.2 e)) h0
      have heq := o_eq nx ny
      have hlt := o_lt nx ny
      have h0' : (rank x == 0) = false := by rw [beq_eq_false_iff_ne]; exact h0
      rw [← h] at hY
      by_cases h1 : lin x = lin y
      · rw [if_pos (.inr h1)] at HD
        rw [decide_eq_true h1] at heq
        clear h h1 hlt nx ny
        generalize rank x = a at *
        go_enter Try.func18, Try.ntmps18
        go_wp2_with fail
        refine (hX.out _).mono ?_
        rintro e w' ⟨rfl, rfl⟩
        go_wp2_with fail
        refine (hY.out _).mono ?_
        rintro e w' ⟨rfl, rfl⟩
        go_wp2
        go_ret
        exact ⟨ret_i HD.out.symm, rfl⟩
      · rw [if_neg (by omega)] at HD
        rw [decide_eq_false h1] at heq
        by_cases h2 : lin x < lin y
        · rw [if_pos h2] at HD
          rw [decide_eq_true h2] at hlt
          clear h h1 h2 nx ny
          generalize rank x = a at *
          go_enter Try.func18, Try.ntmps18
          go_wp2_with fail
          refine (hX.out _).mono ?_
          rintro e w' ⟨rfl, rfl⟩
          go_wp2_with fail
          refine (hY.out _).mono ?_
          rintro e w' ⟨rfl, rfl⟩
          go_wp2
          go_ret
          exact ⟨ret_i HD.out.symm, rfl⟩
        · rw [if_neg h2] at HD
          rw [decide_eq_false h2] at hlt
          clear h h1 h2 nx ny
          generalize rank x = a at *
          go_enter Try.func18, Try.ntmps18
          go_wp2_with fail
          refine (hX.out _).mono ?_
          rintro e w' ⟨rfl, rfl⟩
          go_wp2_with fail
          refine (hY.out _).mono ?_
          rintro e w' ⟨rfl, rfl⟩
          go_wp2
          go_ret
          exact ⟨ret_i HD.out.symm, rfl⟩
  · rw [if_neg (by omega), if_pos h] at HD
    generalize rank x = a at *
    generalize rank y = b at *
    have h1 : decide (a < b) = false := by simp; omega
    go_enter Try.func18, Try.ntmps18
    go_wp2_with fail
    refine (hX.out _).mono ?_
    rintro e w' ⟨rfl, rfl⟩
    go_wp2_with fail
    refine (hY.out _).mono ?_
    rintro e w' ⟨rfl, rfl⟩
    go_wp2
    go_ret
    exact ⟨ret_i HD.out.symm, rfl⟩
theorem run_sub (P : Program) (w : World) (t : TypeId) (x y r : Nat) (h : Ieee.double.sub x y = some r) :
    (binOp .sub t (.float .f64 x) (.float .f64 y)).run P w = .ok (.float .f64 r) w := by
  simp [binOp, Op.floatArith, FloatKind.format, h]
theorem run_sub_nan (P : Program) (w : World) (t : TypeId) (x y : Nat) (h : Ieee.double.sub x y = none) :
    (binOp .sub t (.float .f64 x) (.float .f64 y)).run P w = .ok (.float .f64 (nanOf x y (w.tape w.drawn (.nanBits .f64 x y)))) w.drew := by
  simp [binOp, Op.floatArith, FloatKind.format, h, nanOf, Question.forced]
set_option maxHeartbeats 400000 in
theorem rnumber_any (x : Nat) (w : World) : Calls Try.prog 15 #[.float .f64 x] w fun e w' => e = .returned (.bool (num x)) ∧ ∃ n, w' = w.drewN n := by
  have hse : (FloatKind.f64.format.order x x == some .eq) = !nan x := order_self x
  rcases Nat.lt_trichotomy (rung x) inf with h | h | h
  · have hn : nan x = false := decide_eq_false (by omega)
    have HR := Lib.hid (show num x = true from decide_eq_true h)
    have HS := Lib.hid (sub_num HR.out)
    rw [hn, Bool.not_false] at hse
    have hz : (FloatKind.f64.format.order 0 0 == some .eq) = true := by decide +kernel
    clear hn h
    go_enter Try.func15, Try.ntmps15
    go_wp2
    rw [run_sub _ _ _ _ _ _ HS.out]
    go_wp2
    go_ret
    exact ⟨ret_b HR.out.symm, 0, rfl⟩
  · have hn : nan x = false := decide_eq_false (by omega)
    have HR := Lib.hid (show num x = false from decide_eq_false (by omega))
    have HS := Lib.hid (sub_inf h)
    rw [hn, Bool.not_false] at hse
    clear hn h
    obtain ⟨r, hr⟩ : ∃ r, nanOf x x (w.tape w.drawn (.nanBits .f64 x x)) = r := ⟨_, rfl⟩
    have hnr : nan r = true := by rw [← hr]; exact (nanOf_nan _ _ _).1
    have hz : (FloatKind.f64.format.order r 0 == some .eq) = false := by
      show (Ieee.double.order r 0 == some .eq) = false
      rw [order_eq, hnr]; rfl
    have HQ := Lib.hid (fun t => run_sub_nan Try.prog w t x x HS.out)
    rw [hr] at HQ
    clear hr hnr
    go_enter Try.func15, Try.ntmps15
    go_wp2
    rw [HQ.out]
    go_wp2
    go_ret
    exact ⟨ret_b HR.out.symm, 1, rfl⟩
  · have hn : nan x = true := decide_eq_true h
    have HR := Lib.hid (show num x = false from decide_eq_false (by omega))
    rw [hn, Bool.not_true] at hse
    clear hn h
    go_enter Try.func15, Try.ntmps15
    go_wp2
    go_ret
    exact ⟨ret_b HR.out.symm, 0, rfl⟩
end Go.Proofs.Ytjlghmjngiegaaa
