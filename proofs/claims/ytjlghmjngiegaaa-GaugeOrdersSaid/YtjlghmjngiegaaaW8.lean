/- The statements' own walks: order and bits as the document has them; a rate of nothing. -/
import Derived.Test.YtjlghmjngiegaaaW7
namespace Go.Proofs.Ytjlghmjngiegaaa
open Go Go.Gauge Go.RowKit
set_option maxHeartbeats 2000000 in
theorem cmps_walk (hM : MidSaid) (a b : Nat) (c : Int) (ha : a < 18446744073709551616) (hb : b < 18446744073709551616) (w : World) :
    Calls Try.prog 6 #[.float .f64 a, .float .f64 b, .int .u64 c] w fun e w' => e = .returned (.bool true) ∧ Below w.heap.size w w' := by
  have HA := Lib.hid (awake_of hM)
  have H1 := Lib.hid (cmp_any a b ha hb)
  have H2 := Lib.hid (rcmp_any a b ha hb)
  rw [← keyCmp_eq] at H2
  have HB1 := Lib.hid (bits_any a)
  have HB2 := Lib.hid (rbits_any a)
  have HO1 := Lib.hid (of_any c)
  have HO2 := Lib.hid (rof_any c)
  have HS := Lib.hid (same_any c.toNat c.toNat)
  rw [show sameB c.toNat c.toNat = true by unfold sameB; simp] at HS
  generalize keyCmp a b = x at *
  generalize canon a = p at *
  clear hM ha hb
  go_enter Try.func6, Try.ntmps6
  go_wp2_with fail
  refine (HA.out _).mono ?_
  rintro e w1 ⟨rfl, hbl⟩
  go_wp2_with fail
  refine (H1.out _).mono ?_
  rintro e w' ⟨rfl, rfl⟩
  go_wp2_with fail
  refine (H2.out _).mono ?_
  rintro e w' ⟨rfl, rfl⟩
  go_wp2_with fail
  refine (HB1.out _).mono ?_
  rintro e w' ⟨rfl, rfl⟩
  go_wp2_with fail
  refine (HB2.out _).mono ?_
  rintro e w' ⟨rfl, rfl⟩
  go_wp2_with fail
  refine (HO1.out _).mono ?_
  rintro e w' ⟨rfl, rfl⟩
  go_wp2_with fail
  refine (HO2.out _).mono ?_
  rintro e w' ⟨rfl, rfl⟩
  go_wp2_with fail
  refine (HS.out _).mono ?_
  rintro e w' ⟨rfl, rfl⟩
  go_wp2
  go_ret
  exact ⟨rfl, hbl⟩
theorem foi (n : Int) : floatOfInt .f64 n = Ieee.double.nearest (decide (n < 0)) n.natAbs 0 := rfl
theorem foi0 : floatOfInt .f64 0 = 0 := by decide +kernel
theorem rate_nz {n : Int} (h : n ≠ 0) : Ieee.double.div (floatOfInt .f64 n) (floatOfInt .f64 0) = some (Ieee.double.word (decide (n < 0)) inf) := by
  obtain ⟨h1, h2, h3⟩ := nearest_parts (decide (n < 0)) n.natAbs (by omega)
  rw [foi0, foi, div_zero h1 h2, h3]
theorem word_p : Ieee.double.word false inf = 9218868437227405312 := by decide +kernel
theorem word_n : Ieee.double.word true inf = 18442240474082181120 := by decide +kernel
set_option maxHeartbeats 2000000 in
theorem nothing_walk (hM : MidSaid) (n : Int) (f : Nat) (hn1 : -9223372036854775808 ≤ n) (hn2 : n ≤ 9223372036854775807) (hf : f < 18446744073709551616) (w : World) :
    Calls Try.prog 7 #[.int .i64 n, .float .f64 f] w fun e w' => e = .returned (.bool true) ∧ Below w.heap.size w w' := by
  have HA := Lib.hid (awake_of hM)
  have HB := Lib.hid (bits_any f)
  have HO := Lib.hid (of_any (canon f : Nat))
  rw [Int.toNat_natCast] at HO
  have HC := Lib.hid (cmp_any f f hf hf)
  rw [keyCmp_self] at HC
  have fin : (FloatKind.f64.format.order f f != some .eq) = true ∧ (FloatKind.f64.format.order (canon f) (canon f) != some .eq) = true ∨ (FloatKind.f64.format.order f f != some .eq) = false ∧ (FloatKind.f64.format.order f f == some .eq) = true ∧ canon f = f := by
    cases hnf : nan f
    · refine .inr ⟨(ne_self f).trans hnf, (order_self f).trans (by rw [hnf]; rfl), ?_⟩
      unfold canon; rw [hnf]; rfl
    · refine .inl ⟨(ne_self f).trans hnf, ?_⟩
      have : canon f = canonNan := by unfold canon; rw [hnf]; rfl
      rw [this]
      exact (ne_self canonNan).trans canon_nan
  clear hf hM
  by_cases h0 : n = 0
  · subst h0
    have HR := Lib.hid (rate_none d00)
    rcases fin with ⟨f1, f2⟩ | ⟨f1, f2, f3⟩
    · generalize canon f = g at *
      go_enter Try.func7, Try.ntmps7
      go_wp2_with fail
      refine (HA.out _).mono ?_
      rintro e w1 ⟨rfl, hbl⟩
      go_wp2_with fail
      refine (HR.out _).mono ?_
      rintro e w' ⟨r, rfl, hr, rfl⟩
      have hse : (FloatKind.f64.format.order r.1 r.1 == some .eq) = false := (order_self r.1).trans (by rw [hr]; rfl)
      clear hr
      go_wp2_with fail
      refine (HB.out _).mono ?_
      rintro e w' ⟨rfl, rfl⟩
      go_wp2_with fail
      refine (HO.out _).mono ?_
      rintro e w' ⟨rfl, rfl⟩
      go_wp2
      go_ret
      exact ⟨rfl, hbl.drew⟩
    · rw [f3] at HB HO
      clear f3
      go_enter Try.func7, Try.ntmps7
      go_wp2_with fail
      refine (HA.out _).mono ?_
      rintro e w1 ⟨rfl, hbl⟩
      go_wp2_with fail
      refine (HR.out _).mono ?_
      rintro e w' ⟨r, rfl, hr, rfl⟩
      have hse : (FloatKind.f64.format.order r.1 r.1 == some .eq) = false := (order_self r.1).trans (by rw [hr]; rfl)
      clear hr
      go_wp2_with fail
      refine (HB.out _).mono ?_
      rintro e w' ⟨rfl, rfl⟩
      go_wp2_with fail
      refine (HO.out _).mono ?_
      rintro e w' ⟨rfl, rfl⟩
      go_wp2_with fail
      refine (HC.out _).mono ?_
      rintro e w' ⟨rfl, rfl⟩
      go_wp2
      go_ret
      exact ⟨rfl, hbl.drew⟩
  · have hz : (n == 0) = false := by rw [beq_eq_false_iff_ne]; exact h0
    have hq := rate_nz h0
    have HR := Lib.hid (rate_is hq)
    have ha := inf_add (decide (n < 0))
    have ho := inf_order (decide (n < 0))
    have hs := inf_self (decide (n < 0))
    by_cases hneg : n < 0
    · have hp : ¬ 0 < n := by omega
      rw [decide_eq_true hneg, word_n] at HR ha ho hs
      have HAdd := Lib.hid (fun t w => run_float_arith (P := Try.prog) (w := w) .add t .f64 18442240474082181120 18442240474082181120 18442240474082181120 ha)
      have q1 : (FloatKind.f64.format.order 18442240474082181120 0 == some .gt) = false := by show (Ieee.double.order _ 0 == _) = _; rw [ho]; rfl
      have q2 : (FloatKind.f64.format.order 18442240474082181120 0 == some .eq) = false := by show (Ieee.double.order _ 0 == _) = _; rw [ho]; rfl
      have q3 : (FloatKind.f64.format.order 18442240474082181120 18442240474082181120 != some .eq) = false := by show (Ieee.double.order _ _ != _) = _; rw [hs]; rfl
      clear hq ha ho hs h0
      rcases fin with ⟨f1, f2⟩ | ⟨f1, f2, f3⟩
      · generalize canon f = g at *
        go_enter Try.func7, Try.ntmps7
        go_wp2_with fail
        refine (HA.out _).mono ?_
        rintro e w1 ⟨rfl, hbl⟩
        go_wp2_with fail
        refine (HR.out _).mono ?_
        rintro e w' ⟨rfl, rfl⟩
        go_wp2_with fail
        rw [HAdd.out]
        go_wp2_with fail
        refine (HB.out _).mono ?_
        rintro e w' ⟨rfl, rfl⟩
        go_wp2_with fail
        refine (HO.out _).mono ?_
        rintro e w' ⟨rfl, rfl⟩
        go_wp2
        go_ret
        exact ⟨rfl, hbl⟩
      · rw [f3] at HB HO
        clear f3
        go_enter Try.func7, Try.ntmps7
        go_wp2_with fail
        refine (HA.out _).mono ?_
        rintro e w1 ⟨rfl, hbl⟩
        go_wp2_with fail
        refine (HR.out _).mono ?_
        rintro e w' ⟨rfl, rfl⟩
        go_wp2_with fail
        rw [HAdd.out]
        go_wp2_with fail
        refine (HB.out _).mono ?_
        rintro e w' ⟨rfl, rfl⟩
        go_wp2_with fail
        refine (HO.out _).mono ?_
        rintro e w' ⟨rfl, rfl⟩
        go_wp2_with fail
        refine (HC.out _).mono ?_
        rintro e w' ⟨rfl, rfl⟩
        go_wp2
        go_ret
        exact ⟨rfl, hbl⟩
    · have hp : 0 < n := by omega
      rw [decide_eq_false hneg, word_p] at HR ha ho hs
      have HAdd := Lib.hid (fun t w => run_float_arith (P := Try.prog) (w := w) .add t .f64 9218868437227405312 9218868437227405312 9218868437227405312 ha)
      have q1 : (FloatKind.f64.format.order 9218868437227405312 0 == some .lt) = false := by show (Ieee.double.order _ 0 == _) = _; rw [ho]; rfl
      have q2 : (FloatKind.f64.format.order 9218868437227405312 0 == some .eq) = false := by show (Ieee.double.order _ 0 == _) = _; rw [ho]; rfl
      have q3 : (FloatKind.f64.format.order 9218868437227405312 9218868437227405312 != some .eq) = false := by show (Ieee.double.order _ _ != _) = _; rw [hs]; rfl
      clear hq ha ho hs h0
      rcases fin with ⟨f1, f2⟩ | ⟨f1, f2, f3⟩
      · generalize canon f = g at *
        go_enter Try.func7, Try.ntmps7
        go_wp2_with fail
        refine (HA.out _).mono ?_
        rintro e w1 ⟨rfl, hbl⟩
        go_wp2_with fail
        refine (HR.out _).mono ?_
        rintro e w' ⟨rfl, rfl⟩
        go_wp2_with fail
        rw [HAdd.out]
        go_wp2_with fail
        refine (HB.out _).mono ?_
        rintro e w' ⟨rfl, rfl⟩
        go_wp2_with fail
        refine (HO.out _).mono ?_
        rintro e w' ⟨rfl, rfl⟩
        go_wp2
        go_ret
        exact ⟨rfl, hbl⟩
      · rw [f3] at HB HO
        clear f3
        go_enter Try.func7, Try.ntmps7
        go_wp2_with fail
        refine (HA.out _).mono ?_
        rintro e w1 ⟨rfl, hbl⟩
        go_wp2_with fail
        refine (HR.out _).mono ?_
        rintro e w' ⟨rfl, rfl⟩
        go_wp2_with fail
        rw [HAdd.out]
        go_wp2_with fail
        refine (HB.out _).mono ?_
        rintro e w' ⟨rfl, rfl⟩
        go_wp2_with fail
        refine (HO.out _).mono ?_
        rintro e w' ⟨rfl, rfl⟩
        go_wp2_with fail
        refine (HC.out _).mono ?_
        rintro e w' ⟨rfl, rfl⟩
        go_wp2
        go_ret
        exact ⟨rfl, hbl⟩
end Go.Proofs.Ytjlghmjngiegaaa
