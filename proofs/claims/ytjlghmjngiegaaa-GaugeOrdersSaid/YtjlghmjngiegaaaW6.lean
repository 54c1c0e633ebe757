/- What any right program answers, from a contract of Middle. -/
import Derived.Test.YtjlghmjngiegaaaW5
import Derived.Laws.Rows
namespace Go.Proofs.Ytjlghmjngiegaaa
open Go Go.Gauge Go.RowKit
set_option maxHeartbeats 1000000 in
theorem awake_of (hM : MidSaid) (w : World) : Calls Try.prog 10 #[] w fun e w' => e = .returned (.bool true) ∧ Below w.heap.size w w' := by
  have HM := Lib.hid hM
  have H00 := Lib.hid (rate_none d00)
  have H10 := Lib.hid (rate_is d10)
  have Hm0 := Lib.hid (rate_is dm0)
  have H05 := Lib.hid (rate_is d05)
  clear hM
  go_enter Try.func10, Try.ntmps10
  go_wp2_with fail
  refine (H00.out _).mono ?_
  rintro e w' ⟨r, rfl, hr, rfl⟩
  have hne : (FloatKind.f64.format.order r.1 r.1 != some .eq) = true := (ne_self r.1).trans hr
  have HC := Lib.hid (fun w => cmp_any r.1 18442240474082181120 r.2 (by decide) w)
  rw [cmp_c1 hr] at HC
  have HC2 := Lib.hid (fun w => cmp_any 9223372036854775808 0 (by decide) (by decide) w)
  rw [cmp_c2] at HC2
  have HR := Lib.hid hr
  clear hr
  go_wp2_with fail
  refine (H10.out _).mono ?_
  rintro e w' ⟨rfl, rfl⟩
  go_wp2_with fail
  obtain ⟨W, hW⟩ : ∃ W, (w.alloc (.cells #[.float .f64 4617315517961601024, .float .f64 r.1, .float .f64 4607182418800017408, .float .f64 9218868437227405312] 24)).drew = W := ⟨_, rfl⟩
  have hbW : Below w.heap.size w W := by rw [← hW]; exact ((Below.refl _ w).alloc (Nat.le_refl _) _).drew
  have hrd : Rd W W.heap.size 1 (.slice (some ⟨w.heap.size, 0, none⟩) 4 4) 4 (([⟨4617315517961601024, by decide⟩, r, ⟨4607182418800017408, by decide⟩, ⟨9218868437227405312, by decide⟩] : List F64).map fl) := by
    have hb0 : W.heap[w.heap.size]? = some (.cells #[.float .f64 4617315517961601024, .float .f64 r.1, .float .f64 4607182418800017408, .float .f64 9218868437227405312] 24 (0, 0)) := by rw [← hW]; exact heap_alloc_new w _
    refine ⟨rfl, _, _, rfl, Nat.le_refl _, by decide, fun _ => ⟨_, _, rfl, (Array.getElem?_eq_some_iff.1 hb0).1, fun j u hu => ?_⟩⟩
    rw [Nat.zero_add, cell_of_row _ _ _ _ _ _ hb0, ← hu]
    simp [fl]
  rw [hW]
  clear hW
  refine (HM.out _ _ _ _ _ hrd (by decide)).mono ?_
  rintro e w1 ⟨m, k, rfl, hb1, hm⟩
  obtain ⟨hm1, rfl⟩ := mid_four r HR.out hm
  obtain ⟨m, hml⟩ := m
  dsimp only at hm1 ⊢
  subst hm1
  have hb := hbW.trans (hb1.mono hbW.size)
  have h11 : (FloatKind.f64.format.order 4607182418800017408 4607182418800017408 == some .eq) = true := by decide +kernel
  clear hrd hb1 hbW hml hm
  go_wp2_with fail
  refine (Hm0.out _).mono ?_
  rintro e w' ⟨rfl, rfl⟩
  go_wp2_with fail
  refine (HC.out _).mono ?_
  rintro e w' ⟨rfl, rfl⟩
  go_wp2_with fail
  refine (H05.out _).mono ?_
  rintro e w' ⟨rfl, rfl⟩
  go_wp2_with fail
  refine (HC2.out _).mono ?_
  rintro e w' ⟨rfl, rfl⟩
  go_wp2
  go_ret
  exact ⟨rfl, hb⟩
end Go.Proofs.Ytjlghmjngiegaaa
