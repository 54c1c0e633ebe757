/- slices.symMerge with a comparison by keys: one element on the right. -/
import Derived.Test.YtjlghmjngiegaaaZC
namespace Go.Proofs.Ytjlghmjngiegaaa
open Go Go.Gauge Go.RowKit
def RbRel (g cap a m : Nat) (w0 : World) (f : Nat → Int) (Z L : List Nat) (y : Nat) (i j : Value) (wr : World) : Prop :=
  ∃ ci cj : Nat, a ≤ ci ∧ ci ≤ cj ∧ cj ≤ m ∧ i = .int .i64 (ci : Int) ∧ j = .int .i64 (cj : Int) ∧ (∀ k (h : k < L.length), a + k < ci → f L[k] ≤ f y) ∧ (∀ k (h : k < L.length), cj ≤ a + k → f y < f L[k]) ∧ St g cap w0 Z wr
def RsRel (g cap a : Nat) (w0 : World) (A L B : List Nat) (y e : Nat) (k : Value) (wr : World) : Prop :=
  ∃ c t : Nat, c = a + t ∧ e ≤ c ∧ k = .int .i64 (c : Int) ∧ t ≤ L.length ∧ St g cap w0 (A ++ (L.take t ++ y :: L.drop t) ++ B) wr
set_option maxRecDepth 100000 in
set_option maxHeartbeats 4000000 in
theorem sym_right {g cap n bx : Nat} {w0 w : World} {f : Nat → Int} {A L B : List Nat} {y : Nat} (h : St g cap w0 (A ++ L ++ [y] ++ B) w) (HC : CmpOk g bx n w0 f) (hL : L.Pairwise (Lex f)) (hl2 : 2 ≤ L.length) (hcr : ∀ x ∈ L, x < y) (hlt : ∀ x ∈ A ++ L ++ [y] ++ B, x < n) (hn : (A ++ L ++ [y] ++ B).length = n) (hbig : n ≤ 100000) {a m b : Nat} (ha : A.length = a) (hm : a + L.length = m) (hb : m + 1 = b) :
    Calls Try.prog 58 #[.slice (some ⟨g, 0, none⟩) n cap, .int .i64 (a : Int), .int .i64 (m : Int), .int .i64 (b : Int), .func (.func 40) #[] #[.pointer (some ⟨bx, 0, none⟩)]] w (SymPost g cap w0 f A L [y] B) := by
  obtain ⟨Z, hZ⟩ : ∃ Z, A ++ L ++ [y] ++ B = Z := ⟨_, rfl⟩
  have hnl : b + B.length = n := by simp only [List.length_append, List.length_singleton] at hn; omega
  have hx : ∀ (h : m < Z.length), Z[m] = y := fun h => by
    subst hZ
    have e1 : A ++ L ++ [y] ++ B = (A ++ L) ++ (y :: B) := by simp
    have l1 : (A ++ L).length = m := by rw [List.length_append]; omega
    simp only [e1]
    rw [List.getElem_append_right (by omega)]
    simp [l1]
  have hr : ∀ k (h : k < L.length) (h' : a + k < Z.length), Z[a + k] = L[k] := fun k h h' => by
    subst hZ
    have e1 : A ++ L ++ [y] ++ B = A ++ (L ++ ([y] ++ B)) := by simp
    simp only [e1]
    rw [List.getElem_append_right (by omega)]
    simp only [ha, Nat.add_sub_cancel_left]
    rw [List.getElem_append_left h]
  rw [hZ] at h hlt hn
  have H := Lib.hid h
  have HC := Lib.hid HC
  have HL := Lib.hid hL
  have HCR := Lib.hid hcr
  have HLT := Lib.hid hlt
  have HZ := Lib.hid hZ
  have HX := Lib.hid hx
  have HRG := Lib.hid hr
  have HN := Lib.hid hn
  have HA := Lib.hid ha
  have HM := Lib.hid hm
  have HB := Lib.hid hb
  have HL2 := Lib.hid hl2
  obtain ⟨l, hll⟩ : ∃ l, L.length = l := ⟨_, rfl⟩
  have e0 : IntKind.i64.wrap ((m : Int) - (a : Int)) = (l : Int) := by rw [show (m : Int) - (a : Int) = (l : Int) by omega]; exact IntWalk.i64_in _ (by omega)
  have e1 : IntKind.i64.wrap ((b : Int) - (m : Int)) = 1 := by rw [show (b : Int) - (m : Int) = 1 by omega]; rfl
  have e2 : ((l : Int) == 1) = false := by simp; omega
  clear h hL hcr hlt hZ hx hr hn ha hm hb hll hl2
  go_enter Try.func58, Try.ntmps58
  go_wp2
  go_loopw [14, 15] (fun i j wr => RbRel g cap a m w0 f Z L y i j wr) (fun i j _ => (intOf j).toNat - (intOf i).toNat)
  case atStart => exact ⟨a, m, Nat.le_refl _, by have := HM.out; omega, Nat.le_refl _, rfl, rfl, fun k _ h => by omega, fun k h h' => by have := HM.out; omega, H.out⟩
  case round =>
    clear e0 e1 e2
    obtain ⟨ci, cj, h1, h2, h3, rfl, rfl, hlo, hhi, hS⟩ := hrel
    have HLO := Lib.hid hlo
    have HHI := Lib.hid hhi
    have HS := Lib.hid hS
    clear hlo hhi hS
    by_cases hij : ci < cj
    · obtain ⟨c, hc⟩ : ∃ c, (ci + cj) / 2 = c := ⟨_, rfl⟩
      have hc1 : ci ≤ c := by omega
      have hc2 : c < cj := by omega
      have i1 : (ci : Int) < (cj : Int) := by omega
      have w1' : IntKind.i64.wrap ((ci : Int) + (cj : Int)) = (ci : Int) + (cj : Int) := IntWalk.i64_in _ (by have := HB.out; omega)
      have w2' : ((ci : Int) + (cj : Int)) / 2 = (c : Int) := by omega
      clear hc
      have hbe := HB.out
      have hme := HM.out
      have hne := HN.out
      obtain ⟨k, hk⟩ : ∃ k, c = a + k := ⟨c - a, by omega⟩
      have hkR : k < L.length := by omega
      have hcZ : a + k < Z.length := by omega
      have haZ : m < Z.length := by omega
      have c0 := HS.out.cell hcZ
      have c1 := HS.out.cell haZ
      rw [HRG.out k hkR hcZ, ← hk] at c0
      rw [HX.out haZ] at c1
      have hxn : y < n := by have := HLT.out _ (List.getElem_mem haZ); rw [HX.out haZ] at this; exact this
      have hyn : L[k] < n := by have := HLT.out _ (List.getElem_mem hcZ); rw [HRG.out k hkR hcZ] at this; exact this
      have HK := Lib.hid hk
      have hmon : ∀ j (h : j < L.length), j ≤ k → f L[j] ≤ f L[k] := fun j h hj => lex_le HL.out h hkR hj
      have hmon2 : ∀ j (h : j < L.length), k ≤ j → f L[k] ≤ f L[j] := fun j h hj => lex_le HL.out hkR h hj
      obtain ⟨x, hy⟩ : ∃ x, L[k] = x := ⟨_, rfl⟩
      rw [hy] at c0 hyn hmon hmon2
      have HMO := Lib.hid hmon
      have HMO2 := Lib.hid hmon2
      have HCL := Lib.hid (fun W (hW : Touch (fun k => k = g) w0 W) => HC.out W hW y x hxn hyn)
      obtain ⟨cc, hcc⟩ : ∃ cc, cmpF (f y) (f x) = cc := ⟨_, rfl⟩
      rw [hcc] at HCL
      have i3 : (0 : Int) ≤ (c : Int) := by omega
      have i4 : (c : Int) < (n : Int) := by omega
      have i5 : (0 : Int) ≤ (m : Int) := by omega
      have i6 : (m : Int) < (n : Int) := by omega
      have w3' : IntKind.i64.wrap ((c : Int) + 1) = (c : Int) + 1 := IntWalk.i64_in _ (by omega)
      clear hk hy hmon hmon2 hxn hyn hbe hme hne hcZ haZ
      by_cases hyx : f y < f x
      · have hcn : cc < 0 := hcc ▸ cmpF_lt hyx
        have HYX := Lib.hid hyx
        clear hcc hyx
        go_wp2
        go_region_held3 (fun W' => W'.cell? ⟨g, c, none⟩ = some (.int .i64 (x : Int)) ∧ W'.cell? ⟨g, m, none⟩ = some (.int .i64 (y : Int)))
          (exact ⟨c0, c1⟩)
          ((go_at_call 40; refine (HCL.out _ HS.out.drew.tch).mono ?_; rintro e wy ⟨rfl, q', rfl⟩))
        clear c0 c1
        go_wp2
        go_roundw
        case rel => exact ⟨ci, c, h1, hc1, by omega, rfl, rfl, HLO.out, fun j h hj => (by
          have := HK.out
          exact Int.lt_of_lt_of_le HYX.out (HMO2.out j h (by omega))), HS.out.drewN _⟩
        case measure => simp [intOf]; omega
      · have hcn : ¬ cc < 0 := hcc ▸ cmpF_ge hyx
        have hcd : (!decide (cc < 0)) = true := by simp; omega
        have HYX := Lib.hid hyx
        clear hcc hyx
        go_wp2
        go_region_held3 (fun W' => W'.cell? ⟨g, c, none⟩ = some (.int .i64 (x : Int)) ∧ W'.cell? ⟨g, m, none⟩ = some (.int .i64 (y : Int)))
          (exact ⟨c0, c1⟩)
          ((go_at_call 40; refine (HCL.out _ HS.out.drew.tch).mono ?_; rintro e wy ⟨rfl, q', rfl⟩))
        clear c0 c1
        go_wp2
        go_roundw
        case rel => exact ⟨c + 1, cj, by omega, by omega, h3, by go_num, rfl, fun j h hj => (by
          have := HK.out
          have h1 := HMO.out j h (by omega)
          have h2 := HYX.out
          omega), HHI.out, HS.out.drewN _⟩
        case measure => simp [intOf]; omega
    · obtain rfl : ci = cj := by omega
      have i1 : ¬ (ci : Int) < (ci : Int) := by omega
      have hme := HM.out
      have hbe := HB.out
      have hS0 : RsRel g cap a w0 A L B y ci (.int .i64 (m : Int)) wr := ⟨m, L.length, hme.symm, h3, rfl, Nat.le_refl _, by have := HS.out; rw [← HZ.out] at this; simpa using this⟩
      have HS0 := Lib.hid hS0
      have HEe := Lib.hid (show m + 1 = b ∧ a + L.length = m ∧ a ≤ ci ∧ ci ≤ m ∧ b ≤ n from ⟨hbe, hme, h1, h3, by omega⟩)
      clear hme hbe hS0 hij h1 h2 h3
      go_wp2
      go_loopw [17] (fun k wr => RsRel g cap a w0 A L B y ci k wr) (fun k _ => (intOf k).toNat)
      case atStart => exact HS0.out
      case round =>
        clear HS HS0 i1
        obtain ⟨d, t, hct, hce, rfl, htR, hS⟩ := hrel
        obtain ⟨hbe, hme, h1, h3, hbn⟩ := HEe.out
        by_cases hlt : ci < d
        · obtain ⟨s, rfl⟩ : ∃ s, t = s + 1 := ⟨t - 1, by omega⟩
          have htl : s < L.length := by omega
          obtain ⟨x, hy⟩ : ∃ x, L[s] = x := ⟨_, rfl⟩
          have hd : L.drop s = x :: L.drop (s + 1) := by rw [← hy]; exact (List.getElem_cons_drop htl).symm
          have htk : L.take (s + 1) = L.take s ++ [x] := by rw [List.take_succ_eq_append_getElem htl, hy]
          obtain ⟨Y, hY⟩ : ∃ Y, A ++ (L.take (s + 1) ++ y :: L.drop (s + 1)) ++ B = Y := ⟨_, rfl⟩
          have hY2 : (A ++ L.take s) ++ x :: y :: (L.drop (s + 1) ++ B) = Y := by rw [← hY, htk]; simp
          have hal := HA.out
          obtain ⟨c, hde⟩ : ∃ c, c + 1 = d := ⟨d - 1, by omega⟩
          have l1 : (A ++ L.take s).length = c := by rw [List.length_append, List.length_take]; omega
          have hYl : Y.length = n := by rw [← hY2]; simp only [List.length_append, List.length_cons, List.length_drop, List.length_take]; omega
          have hi : c < Y.length := by omega
          have hj : d < Y.length := by omega
          obtain ⟨gi, gj, _, hsw⟩ := swp_next (A ++ L.take s) (L.drop (s + 1) ++ B) x y hY2 hi hj l1.symm (by omega)
          rw [hY] at hS
          have c0 := hS.cell hi
          have c1 := hS.cell hj
          rw [gi] at c0
          rw [gj] at c1
          have f0 : ∀ i, wr.frozen? ⟨g, i, none⟩ = false := fun i => hS.frozen (by omega) i
          have HSW := Lib.hid (hS.swap hj hi).drew
          rw [hsw] at HSW
          simp only [gi, gj] at HSW
          have HTD := Lib.hid hd
          have i2 : (ci : Int) < (d : Int) := by omega
          have i3 : (0 : Int) ≤ (c : Int) := by omega
          have i4 : (c : Int) < (n : Int) := by omega
          have i5 : (0 : Int) ≤ (d : Int) := by omega
          have i6 : (d : Int) < (n : Int) := by omega
          have n1 : ¬ (c = d) := by omega
          have n2 : ¬ (d = c) := by omega
          have w2' : IntKind.i64.wrap ((d : Int) - 1) = (c : Int) := by rw [show (d : Int) - 1 = (c : Int) by omega]; exact IntWalk.i64_in _ (by omega)
          have HCT := Lib.hid (show c = a + s ∧ ci ≤ c ∧ s ≤ L.length ∧ c + 1 = d from ⟨by omega, by omega, by omega, hde⟩)
          clear hy hd htk hY hY2 hal l1 hYl hde gi gj hsw hS hct hbe hme h1 h3 htl
          go_wp2
          go_region
          obtain ⟨W5, hW5⟩ : ∃ W, ((wr.setCell ⟨g, d, none⟩ (.int .i64 (x : Int))).setCell ⟨g, c, none⟩ (.int .i64 (y : Int))).drew = W := ⟨_, rfl⟩
          rw [hW5] at HSW
          rw [hW5]
          clear hW5 c0 c1 f0
          go_wp2
          go_roundw
          case rel => exact ⟨c, s, HCT.out.1, HCT.out.2.1, rfl, HCT.out.2.2.1, by rw [HTD.out]; simpa using HSW.out⟩
          case measure => (have := HCT.out; simp [intOf]; omega)
        · obtain rfl : d = ci := by omega
          have i2 : ¬ (d : Int) < (d : Int) := by omega
          have hlo := HLO.out
          have hhi := HHI.out
          have hres : (L.take t ++ y :: L.drop t).Perm (L ++ [y]) ∧ (L.take t ++ y :: L.drop t).Pairwise (Lex f) := by
            refine ⟨?_, ?_⟩
            · refine List.perm_middle.trans ?_
              rw [List.take_append_drop]
              exact (List.perm_append_comm (l₁ := [y]))
            · have hp : (L.take t ++ L.drop t).Pairwise (Lex f) := by rw [List.take_append_drop]; exact HL.out
              obtain ⟨p1, p2, p3⟩ := List.pairwise_append.1 hp
              refine List.pairwise_append.2 ⟨p1, List.pairwise_cons.2 ⟨fun x hy => ?_, p2⟩, fun x hy z hz => ?_⟩
              · obtain ⟨i, hi, rfl⟩ := List.getElem_of_mem hy
                rw [List.length_drop] at hi
                rw [List.getElem_drop]
                exact .inl (hhi (t + i) (by omega) (by omega))
              · rcases List.mem_cons.1 hz with rfl | hz
                · obtain ⟨i, hi, rfl⟩ := List.getElem_of_mem hy
                  rw [List.length_take] at hi
                  rw [List.getElem_take]
                  have h1 := hlo i (by omega) (by omega)
                  have h2 := HCR.out _ (List.getElem_mem (show i < L.length by omega))
                  unfold Lex
                  omega
                · exact p3 x hy z hz
          have HRES := Lib.hid hres
          have HSS := Lib.hid hS
          clear hres hS hlo hhi hct hbe hme h1 h3
          go_wp2
          go_end0
          exact ⟨rfl, _, HRES.out.1, HRES.out.2, HSS.out⟩
end Go.Proofs.Ytjlghmjngiegaaa
