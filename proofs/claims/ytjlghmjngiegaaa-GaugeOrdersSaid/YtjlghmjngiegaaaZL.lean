/- The law GaugeOrders, walked. -/
import Derived.Test.YtjlghmjngiegaaaZK
import Derived.Test.YtjlghmjngiegaaaZH
namespace Go.Proofs.Ytjlghmjngiegaaa
open Go Go.Gauge Go.RowKit
/-- both middles are one -/
theorem middles_same {zs : List F64} {w w1 w2 w3 : World} {e1 e2 : Ending} (h : MidPost zs w e1 w1) (k : RmPost zs w2 e2 w3) : ∃ (a b : F64) (r : Int), e1 = .returned (.tuple #[.float .f64 a.1, .int .i64 r]) ∧ e2 = .returned (.tuple #[.float .f64 b.1, .int .i64 r]) ∧ canon a.1 = canon b.1 := by
  obtain ⟨m, r, he, _, h⟩ := h
  obtain ⟨_, k⟩ := k
  rcases h with ⟨h1, h2, rfl⟩ | ⟨L, h1, h2, h3, h4, rfl⟩ <;> rcases k with ⟨k1, k2⟩ | ⟨m', Z, k1, k2, k3, k4, k5, k6⟩
  · exact ⟨m, ⟨0, by decide⟩, 40, he, k2, by rw [h2]⟩
  · have := perm_len k2
    rw [h1] at this
    simp only [List.length_nil] at this
    omega
  · rw [k1] at h1
    have := h1.length_eq
    simp only [List.length_nil] at this
    omega
  · refine ⟨m, m', 0, he, k1, ?_⟩
    have hZl := perm_len k2
    have hLl := h1.length_eq
    have hzl : Z.length = L.length := by omega
    have hi : (Z.length - 1) / 2 < L.length := by omega
    have hm := middle_one h1 h2 k2 k3 (i := (Z.length - 1) / 2) hi k4 k5
    have e1 : L[(L.length - 1) / 2] = L[(Z.length - 1) / 2] := by congr 2; rw [hzl]
    have hk : key m.1 = key m'.1 := by rw [h4, e1, hm, k6]
    exact (canon_iff m.2 m'.2).2 (by unfold keyCmp; rw [if_neg (by omega), if_neg (by omega)])
theorem orders_one {zs : List F64} {Z Z' : List Nat} (h1 : Z.Perm (List.range zs.length)) (h2 : Z.Pairwise (Lex (fk zs))) (k1 : Z'.Perm (List.range zs.length)) (k2 : Z'.Pairwise (Lex (fk zs))) : Z = Z' := lex_unique (h1.trans k1.symm) h2 k2
set_option maxRecDepth 100000 in
set_option maxHeartbeats 4000000 in
theorem orders_walk (zs : List F64) (A : Option Addr) (n c : Nat) (w : World) (hR : Rd w w.heap.size 1 (.slice A n c) n (zs.map fl)) :
    Calls Try.prog 9 #[.slice A n c] w fun e w' => e = .returned (.bool true) ∧ Below w.heap.size w w' := by
  have hl : zs.length = n := by have := hR.1; simpa using this
  subst hl
  obtain ⟨_, hnc, hcm⟩ := hR.len
  unfold maxLen at hcm
  by_cases hbig : zs.length ≤ 300
  · have i0 : ¬ (300 : Int) < (zs.length : Int) := by omega
    have HR := Lib.hid (fun W (hW : Below w.heap.size w W) => (hR.below' hW (Nat.le_refl _)).more hW.size)
    have HM := Lib.hid (mid_said zs A zs.length c w hR (by omega))
    clear hR
    go_enter Try.func9, Try.ntmps9
    go_wp2_with fail
    refine HM.out.mono ?_
    rintro e1 w1 h1
    have hb1 : Below w.heap.size w w1 := by obtain ⟨_, _, _, h, _⟩ := h1; exact h
    have HM2 := Lib.hid (rmiddle_any zs A zs.length c w1 (HR.out w1 hb1) (by omega))
    have HH1 := Lib.hid h1
    obtain ⟨m0, r0, he0, _, _⟩ := h1
    subst he0
    go_wp2_with fail
    refine HM2.out.mono ?_
    rintro e2 w2 h2
    have hb2 : Below w.heap.size w w2 := hb1.trans (h2.1.mono hb1.size)
    obtain ⟨a, b, r, ea, eb, hab⟩ := middles_same HH1.out h2
    injection ea with ea
    injection ea with ea
    simp only [Array.mk.injEq, List.cons.injEq, Value.float.injEq, Value.int.injEq] at ea
    obtain ⟨⟨_, ea1⟩, ⟨_, ea2⟩, _⟩ := ea
    subst eb
    rw [ea1, ea2]
    have HSM := Lib.hid (same_any a.1 b.1)
    rw [show sameB a.1 b.1 = true by unfold sameB; rw [hab]; simp] at HSM
    have HB2 := Lib.hid hb2
    have hrr : (r == r) = true := by simp
    clear hab ea1 ea2 hb1 hb2 h2
    go_wp2_with fail
    refine (awake_any w2).mono ?_
    rintro e w3 ⟨rfl, hb3⟩
    have HB3 := Lib.hid (HB2.out.trans (hb3.mono HB2.out.size))
    have HO := Lib.hid (order_any zs A zs.length c w3 (HR.out w3 HB3.out) (by omega))
    clear hb3
    go_wp2_with fail
    refine HO.out.mono ?_
    rintro e w4 ⟨v4, Z, rfl, p1, p2, hown4, hb4⟩
    have HB4 := Lib.hid (HB3.out.trans (hb4.mono HB3.out.size))
    have HRO := Lib.hid (rorder_any zs A zs.length c w4.heap.size w4 (HR.out w4 HB4.out) (Nat.le_refl _) (by omega))
    obtain ⟨A4, c4, rfl, _, _⟩ := (Rd.of_own hown4).form
    have HR4 := Lib.hid (Rd.of_own hown4)
    clear hown4 hb4
    go_wp2_with fail
    refine HRO.out.mono ?_
    rintro e w5 ⟨v5, Z', rfl, p1', p2', hown5, hb5⟩
    obtain rfl := orders_one p1 p2 p1' p2'
    have HB5 := Lib.hid (HB4.out.trans (hb5.mono HB4.out.size))
    obtain ⟨A5, c5, rfl, _, _⟩ := (Rd.of_own hown5).form
    have HIS := Lib.hid (ints_same Z A4 A5 c4 c5 zs.length w4.heap.size w5.heap.size w5 (perm_len p1) (HR4.out.below' hb5 (Nat.le_refl _)) (Rd.of_own hown5))
    have HS1 := Lib.hid (fun W (hW : Below w.heap.size w W) => sum_any zs A zs.length c W.heap.size W (HR.out W hW) (by omega))
    have HS2 := Lib.hid (fun W (hW : Below w.heap.size w W) => rsum_any zs A zs.length c W.heap.size W (HR.out W hW) (by omega))
    clear p1 p2 p1' p2' hown5 hb5
    go_wp2_with (first
      | (go_at_call 24; refine HIS.out.mono ?_; rintro e w6 ⟨rfl, q6, rfl⟩)
      | (go_at_call 11; refine (HSS.out _).mono ?_; rintro e wz ⟨rfl, rfl⟩)
      | (go_at_call 11; refine (HSM.out _).mono ?_; rintro e wz ⟨rfl, rfl⟩)
      | (go_at_call 26; refine (HS1.out _ (below_drewN HB5.out _)).mono ?_; rintro e w7 ⟨⟨s1, rfl, hs1⟩, q7, rfl⟩)
      | (go_at_call 27; refine (HS2.out _ (below_drewN HB5.out _)).mono ?_; rintro e w8 ⟨⟨s2, rfl, hs2⟩, q8, rfl⟩; have HSS := Lib.hid (same_any s1 s2); rw [show sameB s1 s2 = true by unfold sameB; rw [sum_same hs1 hs2]; simp] at HSS))
    go_ret
    exact ⟨rfl, below_drewN HB5.out _⟩
  · have i0 : (300 : Int) < (zs.length : Int) := by omega
    clear hR
    go_enter Try.func9, Try.ntmps9
    go_wp2_with fail
    refine (awake_any w).mono ?_
    rintro e w1 ⟨rfl, hb1⟩
    go_wp2
    go_ret
    exact ⟨rfl, hb1⟩
end Go.Proofs.Ytjlghmjngiegaaa
