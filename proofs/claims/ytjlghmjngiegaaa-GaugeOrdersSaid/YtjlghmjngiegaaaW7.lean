/- The statements' own walks: rates, the order of all floats. -/
import Derived.Test.YtjlghmjngiegaaaW6
namespace Go.Proofs.Ytjlghmjngiegaaa
open Go Go.Gauge Go.RowKit
theorem below_dN {B : Nat} {a w : World} (h : Below B a w) (n : Nat) : Below B a (w.drewN n) := ⟨h.os, h.tape, h.output, h.size, h.block⟩
set_option maxHeartbeats 1000000 in
theorem law_rates (hM : MidSaid) (a b : Int) (w : World) : Calls Try.prog 3 #[.int .i64 a, .int .i64 b] w fun e w' => e = .returned (.bool true) ∧ Below w.heap.size w w' := by
  have HA := Lib.hid (awake_of hM)
  have HR1 := Lib.hid (rate_any a b)
  have HR2 := Lib.hid (rrate_any a b)
  clear hM
  go_enter Try.func3, Try.ntmps3
  go_wp2_with fail
  refine (HA.out _).mono ?_
  rintro e w1 ⟨rfl, hb⟩
  go_wp2_with fail
  refine (HR1.out _).mono ?_
  rintro e w2 ⟨r1, n1, rfl, hc1, _, _, rfl⟩
  have hb2 := below_dN hb n1
  have HC1 := Lib.hid hc1
  clear hb hc1
  go_wp2_with fail
  refine (HR2.out _).mono ?_
  rintro e w2 ⟨r2, n2, rfl, hc2, _, _, rfl⟩
  have hb3 := below_dN hb2 n2
  have HS := Lib.hid (same_any r1 r2)
  rw [show sameB r1 r2 = true by unfold sameB; rw [hc2, HC1.out]; simp] at HS
  clear hb2 hc2
  go_wp2_with fail
  refine (HS.out _).mono ?_
  rintro e w' ⟨rfl, rfl⟩
  go_wp2
  go_ret
  exact ⟨rfl, by rw [← World.drewN_drewN]; exact hb3⟩
theorem keyCmp_bd (x y : Nat) : -1 ≤ keyCmp x y ∧ keyCmp x y ≤ 1 := by unfold keyCmp; repeat' split
                                                                       all_goals omega
set_option maxHeartbeats 2000000 in
theorem total_walk (hM : MidSaid) (a b c : Nat) (ha : a < 18446744073709551616) (hb : b < 18446744073709551616) (hc : c < 18446744073709551616) (w : World) :
    Calls Try.prog 5 #[.float .f64 a, .float .f64 b, .float .f64 c] w fun e w' => e = .returned (.bool true) ∧ Below w.heap.size w w' := by
  have HA := Lib.hid (awake_of hM)
  have H1 := Lib.hid (cmp_any a b ha hb)
  have H2 := Lib.hid (cmp_any b c hb hc)
  have H3 := Lib.hid (cmp_any a c ha hc)
  have H4 := Lib.hid (cmp_any b a hb ha)
  have H5 := Lib.hid (cmp_any a a ha ha)
  have HB1 := Lib.hid (bits_any a)
  have HB2 := Lib.hid (bits_any b)
  have ht := Lib.hid (keyCmp_trans a b c)
  have hcan : ((canon a : Int) == canon b) = (keyCmp a b == 0) := by
    have := canon_iff ha hb
    rw [Bool.eq_iff_iff, beq_iff_eq, beq_iff_eq, ← this]
    omega
  have hlin : nan a = false → nan b = false → lin a < lin b → keyCmp a b = -1 := lin_key
  have hbd := keyCmp_bd a b
  rw [keyCmp_self] at H5
  rw [keyCmp_flip b a] at H4
  have HL : Hid (nan a = true ∨ nan b = true ∨ (FloatKind.f64.format.order a b == some .gt) = true ∨ (FloatKind.f64.format.order a b == some .eq) = true ∨ keyCmp a b < 0) := Lib.hid (by
    cases na : nan a
    · cases nb : nan b
      · rw [o_gt na nb, o_eq na nb]
        by_cases h : lin a < lin b
        · have := hlin na nb h; omega
        · simp; omega
      · simp
    · simp)
  have e1 : (FloatKind.f64.format.order a a != some .eq) = nan a := ne_self a
  have e2 : (FloatKind.f64.format.order b b != some .eq) = nan b := ne_self b
  generalize keyCmp a b = x at *
  generalize keyCmp b c = y at *
  generalize keyCmp a c = z at *
  generalize canon a = p at *
  generalize canon b = q at *
  obtain ⟨hb1, hb2⟩ := hbd
  clear hM ha hb hc hlin
  go_enter Try.func5, Try.ntmps5
  go_wp2_with fail
  refine (HA.out _).mono ?_
  rintro e w1 ⟨rfl, hbl⟩
  go_wp2_with fail
  refine (H1.out _).mono ?_
  rintro e w' ⟨rfl, rfl⟩
  go_wp2_with fail
  refine (H2.out _).mono ?_
  rintro e w' ⟨rfl, rfl⟩
  go_wp2_with fail
  refine (H3.out _).mono ?_
  rintro e w' ⟨rfl, rfl⟩
  go_wp2_with fail
  refine (H4.out _).mono ?_
  rintro e w' ⟨rfl, rfl⟩
  go_wp2_with fail
  refine (H5.out _).mono ?_
  rintro e w' ⟨rfl, rfl⟩
  go_wp2_with fail
  refine (HB1.out _).mono ?_
  rintro e w' ⟨rfl, rfl⟩
  go_wp2_with fail
  refine (HB2.out _).mono ?_
  rintro e w' ⟨rfl, rfl⟩
  go_wp2
  all_goals go_ret
  all_goals first
    | (exfalso; have t1 := ht.out; omega)
    | (refine ⟨ret_b ?_, hbl⟩
       have t1 := ht.out
       try simp only [Bool.and_eq_true, Bool.or_eq_true, decide_eq_true_eq]
       first
         | done
         | omega
         | (have t3 : ((FloatKind.f64.format.order a b == some .gt) = true ∨ (FloatKind.f64.format.order a b == some .eq) = true) ∨ x < 0 := by
              rcases HL.out with h | h | h | h | h
              · exact absurd h (by assumption)
              · exact absurd h (by assumption)
              · exact .inl (.inl h)
              · exact .inl (.inr h)
              · exact .inr h
            first | exact t3 | exact ⟨by omega, t3⟩))
    | (exfalso
       by_cases u : FloatKind.f64.format.order a b = some Ordering.gt
       · exact absurd (Or.inl u) ‹¬(FloatKind.f64.format.order a b = some Ordering.gt ∨ FloatKind.f64.format.order a b = some Ordering.eq)›
       · by_cases v : FloatKind.f64.format.order a b = some Ordering.eq
         · exact absurd (Or.inr v) ‹¬(FloatKind.f64.format.order a b = some Ordering.gt ∨ FloatKind.f64.format.order a b = some Ordering.eq)›
         · exact absurd ⟨u, v⟩ ‹¬(¬FloatKind.f64.format.order a b = some Ordering.gt ∧ ¬FloatKind.f64.format.order a b = some Ordering.eq)›)
end Go.Proofs.Ytjlghmjngiegaaa
