/- Words for the number in the middle; how any right program answers, from a contract of Middle. -/
import Derived.Test.YtjlghmjngiegaaaW4
import Derived.Test.YtjlghmjngiegaaaV1
namespace Go.Proofs.Ytjlghmjngiegaaa
open Go Go.Gauge Go.RowKit
abbrev F64 := { x : Nat // x < 18446744073709551616 }
instance : Inhabited F64 := ⟨⟨0, by decide⟩⟩
def fl (x : F64) : Value := .float .f64 x.1
def numF (x : F64) : Bool := num x.1
def MidPost (zs : List F64) (w : World) (e : Ending) (w' : World) : Prop :=
  ∃ (m : F64) (k : Int), e = .returned (.tuple #[.float .f64 m.1, .int .i64 k]) ∧ Below w.heap.size w w' ∧
    ((zs.filter numF = [] ∧ m.1 = 0 ∧ k = 40) ∨ ∃ L : List F64, L.Perm (zs.filter numF) ∧ L.Pairwise (fun a b => key a.1 ≤ key b.1) ∧ ∃ h : (L.length - 1) / 2 < L.length, m = L[(L.length - 1) / 2] ∧ k = 0)
def MidSaid : Prop := ∀ (zs : List F64) (A : Option Addr) (n c : Nat) (w : World), Rd w w.heap.size 1 (.slice A n c) n (zs.map fl) → n ≤ 1000000000 → Calls Try.prog 14 #[.slice A n c] w (MidPost zs w)
theorem rate_is {a b : Int} {q : Nat} (h : Ieee.double.div (floatOfInt .f64 a) (floatOfInt .f64 b) = some q) (w : World) : Calls Try.prog 12 #[.int .i64 a, .int .i64 b] w fun e w' => e = .returned (.float .f64 q) ∧ w = w' := by
  have H := Lib.hid h
  clear h
  go_enter Try.func12, Try.ntmps12
  go_wp2
  rw [run_quo _ _ _ _ _ _ H.out]
  go_wp2
  go_ret
  exact ⟨rfl, rfl⟩
theorem rate_none {a b : Int} (h : Ieee.double.div (floatOfInt .f64 a) (floatOfInt .f64 b) = none) (w : World) : Calls Try.prog 12 #[.int .i64 a, .int .i64 b] w fun e w' => ∃ r : F64, e = .returned (.float .f64 r.1) ∧ nan r.1 = true ∧ w.drew = w' := by
  have H := Lib.hid h
  clear h
  go_enter Try.func12, Try.ntmps12
  go_wp2
  rw [run_quo_nan _ _ _ _ _ H.out]
  go_wp2
  go_ret
  obtain ⟨h1, h2⟩ := nanOf_nan (floatOfInt .f64 a) (floatOfInt .f64 b) (w.tape w.drawn (.nanBits .f64 (floatOfInt .f64 a) (floatOfInt .f64 b)))
  exact ⟨⟨_, h2⟩, rfl, h1, rfl⟩
theorem d00 : Ieee.double.div (floatOfInt .f64 0) (floatOfInt .f64 0) = none := by decide +kernel
theorem d10 : Ieee.double.div (floatOfInt .f64 1) (floatOfInt .f64 0) = some 9218868437227405312 := by decide +kernel
theorem dm0 : Ieee.double.div (floatOfInt .f64 (-1)) (floatOfInt .f64 0) = some 18442240474082181120 := by decide +kernel
theorem d05 : Ieee.double.div (floatOfInt .f64 0) (floatOfInt .f64 (-5)) = some 9223372036854775808 := by decide +kernel
theorem cmp_c1 {r : Nat} (h : nan r = true) : keyCmp r 18442240474082181120 = -1 := by
  apply keyCmp_lt
  rw [key_nan.2 h]
  decide +kernel
theorem cmp_c2 : keyCmp 9223372036854775808 0 = -1 := by decide +kernel
theorem mid_four {m : F64} {k : Int} (r : F64) (hr : nan r.1 = true)
    (h : (([⟨4617315517961601024, by decide⟩, r, ⟨4607182418800017408, by decide⟩, ⟨9218868437227405312, by decide⟩] : List F64).filter numF = [] ∧ m.1 = 0 ∧ k = 40) ∨ ∃ L : List F64, L.Perm (([⟨4617315517961601024, by decide⟩, r, ⟨4607182418800017408, by decide⟩, ⟨9218868437227405312, by decide⟩] : List F64).filter numF) ∧ L.Pairwise (fun a b => key a.1 ≤ key b.1) ∧ ∃ h : (L.length - 1) / 2 < L.length, m = L[(L.length - 1) / 2] ∧ k = 0) : m.1 = 4607182418800017408 ∧ k = 0 := by
  have e1 : numF ⟨4617315517961601024, by decide⟩ = true := by decide +kernel
  have e2 : numF r = false := by
    unfold numF num
    have := of_decide_eq_true hr
    exact decide_eq_false (by omega)
  have e3 : numF ⟨4607182418800017408, by decide⟩ = true := by decide +kernel
  have e4 : numF ⟨9218868437227405312, by decide⟩ = false := by decide +kernel
  simp only [List.filter_cons, e1, e2, e3, e4, if_true, List.filter_nil, Bool.false_eq_true, if_false] at h
  rcases h with ⟨h, _⟩ | ⟨L, hp, hs, hlt, rfl, rfl⟩
  · cases h
  · have hl := hp.length_eq
    match L, hl with
    | [p, q], _ =>
      have e0 : ([p, q] : List F64)[([p, q].length - 1) / 2]'hlt = p := by simp
      rw [e0]
      refine ⟨?_, rfl⟩
      have hpq := (List.pairwise_cons.1 hs).1 q (by simp)
      have hm := hp.mem_iff.1 (show p ∈ [p, q] by simp)
      simp only [List.mem_cons, List.mem_nil_iff, or_false] at hm
      rcases hm with rfl | rfl
      · have hq := hp.mem_iff.2 (show (⟨4607182418800017408, by decide⟩ : F64) ∈ [_, _] by simp)
        simp only [List.mem_cons, List.mem_nil_iff, or_false] at hq
        rcases hq with hq | hq
        · exact absurd (congrArg Subtype.val hq) (by decide)
        · rw [← hq] at hpq
          exact absurd hpq (by decide +kernel)
      · rfl
end Go.Proofs.Ytjlghmjngiegaaa
