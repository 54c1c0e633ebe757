/- Sums of floats, both ways; rows of places compared. -/
import Derived.Test.YtjlghmjngiegaaaZI
import Derived.Test.YtjlghmjngiegaaaW3
namespace Go.Gauge
open Go
theorem run_add_nan (P : Program) (w : World) (t : TypeId) (x y : Nat) (h : Ieee.double.add x y = none) :
    (binOp .add t (.float .f64 x) (.float .f64 y)).run P w = .ok (.float .f64 (nanOf x y (w.tape w.drawn (.nanBits .f64 x y)))) w.drew := by
  simp [binOp, Op.floatArith, FloatKind.format, h, nanOf, Question.forced]
theorem run_add (P : Program) (w : World) (t : TypeId) (x y r : Nat) (h : Ieee.double.add x y = some r) :
    (binOp .add t (.float .f64 x) (.float .f64 y)).run P w = .ok (.float .f64 r) w := by
  simp [binOp, Op.floatArith, FloatKind.format, h]
theorem add_nan {x y : Nat} (h : nan x = true) : Ieee.double.add x y = none := by
  unfold Ieee.Format.add
  rw [read_nan (of_decide_eq_true h)]
  rfl
def addC (s x : Nat) : Nat := if nan s then canonNan else (Ieee.double.add s x).getD canonNan
def SumR (s c : Nat) : Prop := s = c ∨ (nan s = true ∧ nan c = true)
theorem sum_step {s c x : Nat} (h : SumR s c) : (∃ r, Ieee.double.add s x = some r ∧ SumR r (addC c x)) ∨ (Ieee.double.add s x = none ∧ ∀ s', nan s' = true → SumR s' (addC c x)) := by
  have hc : nan canonNan = true := canon_nan
  cases ha : Ieee.double.add s x with
  | some r =>
    have hs : nan s = false := by
      cases hn : nan s with
      | false => rfl
      | true => rw [add_nan hn] at ha; cases ha
    rcases h with rfl | ⟨h1, _⟩
    · exact .inl ⟨r, rfl, .inl (by unfold addC; rw [hs, ha]; rfl)⟩
    · rw [hs] at h1; cases h1
  | none =>
    refine .inr ⟨rfl, fun s' hs' => .inr ⟨hs', ?_⟩⟩
    unfold addC
    rcases h with rfl | ⟨_, h2⟩
    · rw [ha]
      split
      · exact hc
      · exact hc
    · rw [if_pos h2]; exact hc
theorem sum_same {a b c : Nat} (h : SumR a c) (k : SumR b c) : canon a = canon b := by
  unfold canon
  rcases h with rfl | ⟨h1, h2⟩ <;> rcases k with rfl | ⟨k1, k2⟩
  · rfl
  · rw [k1, k2]; rfl
  · rw [h1, h2]; rfl
  · rw [h1, k1]; rfl
end Go.Gauge
namespace Go.Proofs.Ytjlghmjngiegaaa
open Go Go.Gauge Go.RowKit
def sumC (zs : List F64) : Nat := zs.foldl (fun s z => if nan z.1 then s else addC s z.1) 0
theorem sumC_snoc (zs : List F64) (z : F64) : sumC (zs ++ [z]) = if nan z.1 then sumC zs else addC (sumC zs) z.1 := by simp [sumC]
theorem order_eq_self {x : Nat} {b : Bool} (h : nan x = b) : (FloatKind.f64.format.order x x == some .eq) = !b := by rw [← h]; exact order_self x
def SuRel (zs : List F64) (w : World) (s i : Value) (wr : World) : Prop := ∃ (k : Nat) (v : Nat), k ≤ zs.length ∧ i = .int .i64 (k : Int) ∧ s = .float .f64 v ∧ SumR v (sumC (zs.take k)) ∧ ∃ q, wr = w.drewN q
set_option maxRecDepth 100000 in
set_option maxHeartbeats 2000000 in
theorem sum_any (zs : List F64) (A : Option Addr) (n c B0 : Nat) (w : World) (hR : Rd w B0 1 (.slice A n c) n (zs.map fl)) (hbig : n ≤ 100000) :
    Calls Try.prog 26 #[.slice A n c] w fun e w' => (∃ s, e = .returned (.float .f64 s) ∧ SumR s (sumC zs)) ∧ ∃ q, w' = w.drewN q := by
  have hl : zs.length = n := by have := hR.1; simpa using this
  subst hl
  obtain ⟨_, hnc, hcm⟩ := hR.len
  unfold maxLen at hcm
  have HR := Lib.hid hR
  clear hR
  go_enter Try.func26, Try.ntmps26
  go_wp2
  go_loopw [3, 8] (fun s i wr => SuRel zs w s i wr) (fun _ i _ => zs.length - (intOf i).toNat)
  case atStart => exact ⟨0, 0, Nat.zero_le _, rfl, rfl, .inl rfl, 0, rfl⟩
  case round =>
    obtain ⟨k, v, hk, rfl, rfl, hs, q, rfl⟩ := hrel
    have HS := Lib.hid hs
    clear hs
    by_cases hlt : k < zs.length
    · obtain ⟨b, o, rfl, _, c0⟩ := rd_fl HR.out hlt
      have hsn := List.take_succ_eq_append_getElem hlt
      have hbd := zs[k].2
      have hsc := sumC_snoc (zs.take k) zs[k]
      rw [← hsn] at hsc
      obtain ⟨x, hx⟩ : ∃ x, zs[k].1 = x := ⟨_, rfl⟩
      rw [hx] at c0 hsc hbd
      have HSC := Lib.hid hsc
      have HN := Lib.hid (isNaN_any x)
      have i1 : (k : Int) < (zs.length : Int) := by omega
      have i2 : (0 : Int) ≤ (k : Int) := by omega
      have c0' : (w.drewN q).cell? ⟨b, o + k, none⟩ = some (.float .f64 x) := c0
      clear hsn hsc hx
      cases hn : nan x with
      | true =>
        rw [hn] at HN HSC
        have HNN := Lib.hid hn
        clear hn
        go_wp2_with (go_at_call 34; refine (HN.out _).mono ?_; rintro e wy ⟨rfl, rfl⟩)
        go_roundw
        case rel => exact ⟨k + 1, v, by omega, by go_num, rfl, by rw [HSC.out]; exact HS.out, q, rfl⟩
        case measure => simp [intOf]; omega
      | false =>
        rw [hn] at HN HSC
        clear hn
        rcases sum_step (x := x) HS.out with ⟨r, ha, hr⟩ | ⟨ha, hr⟩
        · have hrun := fun w t => run_add Try.prog w t v x r ha
          have HRR := Lib.hid hr
          clear ha hr
          go_wp2_with (go_at_call 34; refine (HN.out _).mono ?_; rintro e wy ⟨rfl, rfl⟩)
          go_roundw
          case rel => exact ⟨k + 1, r, by omega, by go_num, rfl, by rw [HSC.out]; exact HRR.out, q, rfl⟩
          case measure => simp [intOf]; omega
        · have hrun := fun w t => run_add_nan Try.prog w t v x ha
          have HRR := Lib.hid hr
          clear ha hr
          go_wp2_with (go_at_call 34; refine (HN.out _).mono ?_; rintro e wy ⟨rfl, rfl⟩)
          go_roundw
          case rel => exact ⟨k + 1, _, by omega, by go_num, rfl, by rw [HSC.out]; exact HRR.out _ (nanOf_nan _ _ _).1, q + 1, rfl⟩
          case measure => simp [intOf]; omega
    · obtain rfl : k = zs.length := by omega
      have i1 : ¬ (zs.length : Int) < (zs.length : Int) := by omega
      have hs := HS.out
      rw [List.take_length] at hs
      have HS2 := Lib.hid hs
      clear hs
      go_wp2
      go_ret
      exact ⟨⟨v, rfl, HS2.out⟩, q, rfl⟩
set_option maxRecDepth 100000 in
set_option maxHeartbeats 2000000 in
theorem rsum_any (zs : List F64) (A : Option Addr) (n c B0 : Nat) (w : World) (hR : Rd w B0 1 (.slice A n c) n (zs.map fl)) (hbig : n ≤ 100000) :
    Calls Try.prog 27 #[.slice A n c] w fun e w' => (∃ s, e = .returned (.float .f64 s) ∧ SumR s (sumC zs)) ∧ ∃ q, w' = w.drewN q := by
  have hl : zs.length = n := by have := hR.1; simpa using this
  subst hl
  obtain ⟨_, hnc, hcm⟩ := hR.len
  unfold maxLen at hcm
  have HR := Lib.hid hR
  clear hR
  go_enter Try.func27, Try.ntmps27
  go_wp2
  go_loopw [3, 4] (fun s i wr => SuRel zs w s i wr) (fun _ i _ => zs.length - (intOf i).toNat)
  case atStart => exact ⟨0, 0, Nat.zero_le _, rfl, rfl, .inl rfl, 0, rfl⟩
  case round =>
    obtain ⟨k, v, hk, rfl, rfl, hs, q, rfl⟩ := hrel
    have HS := Lib.hid hs
    clear hs
    by_cases hlt : k < zs.length
    · obtain ⟨b, o, rfl, _, c0⟩ := rd_fl HR.out hlt
      have hsn := List.take_succ_eq_append_getElem hlt
      have hsc := sumC_snoc (zs.take k) zs[k]
      rw [← hsn] at hsc
      obtain ⟨x, hx⟩ : ∃ x, zs[k].1 = x := ⟨_, rfl⟩
      rw [hx] at c0 hsc
      have HSC := Lib.hid hsc
      have i1 : (k : Int) < (zs.length : Int) := by omega
      have i2 : (0 : Int) ≤ (k : Int) := by omega
      clear hsn hsc hx
      cases hn : nan x with
      | true =>
        rw [hn] at HSC
        have ho := order_eq_self hn
        clear hn
        go_wp2
        go_quiet (fail)
        go_wp2
        go_roundw
        case rel => exact ⟨k + 1, v, by omega, by go_num, rfl, by rw [HSC.out]; exact HS.out, q + nq, rfl⟩
        case measure => simp [intOf]; omega
      | false =>
        rw [hn] at HSC
        have ho := order_eq_self hn
        clear hn
        rcases sum_step (x := x) HS.out with ⟨r, ha, hr⟩ | ⟨ha, hr⟩
        · have hrun := fun w t => run_add Try.prog w t v x r ha
          have HRR := Lib.hid hr
          clear ha hr
          go_wp2
          go_quiet (fail)
          go_wp2
          go_roundw
          case rel => exact ⟨k + 1, r, by omega, by go_num, rfl, by rw [HSC.out]; exact HRR.out, q + nq, rfl⟩
          case measure => simp [intOf]; omega
        · have hrun := fun w t => run_add_nan Try.prog w t v x ha
          have HRR := Lib.hid hr
          clear ha hr
          go_wp2
          go_quiet (fail)
          go_wp2
          go_roundw
          case rel => exact ⟨k + 1, _, by omega, by go_num, rfl, by rw [HSC.out]; exact HRR.out _ (nanOf_nan _ _ _).1, q + nq + 1, rfl⟩
          case measure => simp [intOf]; omega
    · obtain rfl : k = zs.length := by omega
      have i1 : ¬ (zs.length : Int) < (zs.length : Int) := by omega
      have hs := HS.out
      rw [List.take_length] at hs
      have HS2 := Lib.hid hs
      clear hs
      go_wp2
      go_ret
      exact ⟨⟨v, rfl, HS2.out⟩, q, rfl⟩
theorem rd_nn {Z : List Nat} {w : World} {B n c : Nat} {A : Option Addr} (h : Rd w B 1 (.slice A n c) n (Z.flatMap nC)) (hl : Z.length = n) {i : Nat} (hi : i < Z.length) : ∃ b o, A = some ⟨b, o, none⟩ ∧ b < B ∧ w.cell? ⟨b, o + i, none⟩ = some (.int .i64 (Z[i] : Int)) := by
  obtain ⟨b, o, rfl, hb, hc⟩ := h.cells (by omega)
  exact ⟨b, o, rfl, hb, hc i _ (nC_get Z i hi)⟩
def SiRel (n : Nat) (w : World) (i : Value) (wr : World) : Prop := ∃ (k q : Nat), k ≤ n ∧ i = .int .i64 (k : Int) ∧ wr = w.drewN q
set_option maxRecDepth 100000 in
set_option maxHeartbeats 2000000 in
theorem ints_same (Z : List Nat) (A A' : Option Addr) (c c' n B B' : Nat) (w : World) (hl : Z.length = n) (hR : Rd w B 1 (.slice A n c) n (Z.flatMap nC)) (hR' : Rd w B' 1 (.slice A' n c') n (Z.flatMap nC)) :
    Calls Try.prog 24 #[.slice A n c, .slice A' n c'] w fun e w' => e = .returned (.bool true) ∧ ∃ q, w' = w.drewN q := by
  obtain ⟨_, hnc, hcm⟩ := hR.len
  obtain ⟨_, hnc', hcm'⟩ := hR'.len
  unfold maxLen at hcm hcm'
  have HR := Lib.hid hR
  have HR' := Lib.hid hR'
  have HL := Lib.hid hl
  have hne : ((n : Int) != (n : Int)) = false := by simp
  clear hR hR' hl
  go_enter Try.func24, Try.ntmps24
  go_wp2
  go_loopw [5] (fun i wr => SiRel n w i wr) (fun i _ => n - (intOf i).toNat)
  case atStart => exact ⟨0, 0, Nat.zero_le _, rfl, rfl⟩
  case round =>
    obtain ⟨k, q, hk, rfl, rfl⟩ := hrel
    by_cases hlt : k < n
    · have hzl := HL.out
      obtain ⟨b, o, rfl, _, c0⟩ := rd_nn HR.out hzl (i := k) (by omega)
      obtain ⟨b2, o2, rfl, _, c1⟩ := rd_nn HR'.out hzl (i := k) (by omega)
      obtain ⟨z, hz⟩ : ∃ z, Z[k] = z := ⟨_, rfl⟩
      rw [hz] at c0 c1
      have i1 : (k : Int) < (n : Int) := by omega
      have i2 : (0 : Int) ≤ (k : Int) := by omega
      have hzz : ((z : Int) != (z : Int)) = false := by simp
      clear hz hzl
      go_wp2
      go_quiet (fail)
      go_wp2
      go_roundw
      case rel => exact ⟨k + 1, q + nq, by omega, by go_num, rfl⟩
      case measure => simp [intOf]; omega
    · obtain rfl : k = n := by omega
      have i1 : ¬ (k : Int) < (k : Int) := by omega
      go_wp2
      go_ret
      exact ⟨rfl, q, rfl⟩
end Go.Proofs.Ytjlghmjngiegaaa
