/- slices.symMerge with a comparison by keys: one element on the left, or on the right. -/
import Derived.Test.YtjlghmjngiegaaaZB
namespace Go.Proofs.Ytjlghmjngiegaaa
open Go Go.Gauge Go.RowKit
def SymPost (g cap : Nat) (w0 : World) (f : Nat → Int) (A L R B : List Nat) (e : Ending) (w' : World) : Prop :=
  e = .returned (.tuple #[]) ∧ ∃ S, S.Perm (L ++ R) ∧ S.Pairwise (Lex f) ∧ St g cap w0 (A ++ S ++ B) w'
/-- equal keys or rising ones in such a list -/
theorem lex_le {f : Nat → Int} {R : List Nat} (h : R.Pairwise (Lex f)) {i j : Nat} (hi : i < R.length) (hj : j < R.length) (hij : i ≤ j) : f R[i] ≤ f R[j] := by
  rcases Nat.lt_or_ge i j with hl | hl
  · have := List.pairwise_iff_getElem.1 h i j hi hj hl
    unfold Lex at this; omega
  · have : i = j := by omega
    subst this; exact Int.le_refl _
def LbRel (g cap m b : Nat) (w0 : World) (f : Nat → Int) (Z R : List Nat) (x : Nat) (i j : Value) (wr : World) : Prop :=
  ∃ ci cj : Nat, m ≤ ci ∧ ci ≤ cj ∧ cj ≤ b ∧ i = .int .i64 (ci : Int) ∧ j = .int .i64 (cj : Int) ∧ (∀ k (h : k < R.length), m + k < ci → f R[k] < f x) ∧ (∀ k (h : k < R.length), cj ≤ m + k → f x ≤ f R[k]) ∧ St g cap w0 Z wr
def LsRel (g cap a : Nat) (w0 : World) (A R B : List Nat) (x e : Nat) (k : Value) (wr : World) : Prop :=
  ∃ c t : Nat, c = a + t ∧ c ≤ e ∧ k = .int .i64 (c : Int) ∧ t ≤ R.length ∧ St g cap w0 (A ++ (R.take t ++ x :: R.drop t) ++ B) wr
set_option maxRecDepth 100000 in
set_option maxHeartbeats 4000000 in
theorem sym_left {g cap n bx : Nat} {w0 w : World} {f : Nat → Int} {A R B : List Nat} {x : Nat} (h : St g cap w0 (A ++ [x] ++ R ++ B) w) (HC : CmpOk g bx n w0 f) (hR : R.Pairwise (Lex f)) (hcr : ∀ y ∈ R, x < y) (hlt : ∀ y ∈ A ++ [x] ++ R ++ B, y < n) (hn : (A ++ [x] ++ R ++ B).length = n) (hbig : n ≤ 100000) {a m b : Nat} (ha : A.length = a) (hm : a + 1 = m) (hb : m + R.length = b) :
    Calls Try.prog 58 #[.slice (some ⟨g, 0, none⟩) n cap, .int .i64 (a : Int), .int .i64 (m : Int), .int .i64 (b : Int), .func (.func 40) #[] #[.pointer (some ⟨bx, 0, none⟩)]] w (SymPost g cap w0 f A [x] R B) := by
  obtain ⟨Z, hZ⟩ : ∃ Z, A ++ [x] ++ R ++ B = Z := ⟨_, rfl⟩
  have hnl : b + B.length = n := by simp only [List.length_append, List.length_singleton] at hn; omega
  have hx : ∀ (h : a < Z.length), Z[a] = x := fun h => by subst hZ; simp [← ha]
  have hr : ∀ k (h : k < R.length) (h' : m + k < Z.length), Z[m + k] = R[k] := fun k h h' => by
    subst hZ
    have e1 : A ++ [x] ++ R ++ B = (A ++ [x]) ++ (R ++ B) := by simp
    have l1 : (A ++ [x]).length = m := by rw [List.length_append, List.length_singleton]; omega
    simp only [e1]
    rw [List.getElem_append_right (by omega)]
    simp only [l1, Nat.add_sub_cancel_left]
    rw [List.getElem_append_left h]
  rw [hZ] at h hlt hn
  have H := Lib.hid h
  have HC := Lib.hid HC
  have HR := Lib.hid hR
  have HCR := Lib.hid hcr
  have HLT := Lib.hid hlt
  have HZ := Lib.hid hZ
  have HX := Lib.hid hx
  have HRG := Lib.hid hr
  have HN := Lib.hid hn
  have HA := Lib.hid ha
  have HM := Lib.hid hm
  have HB := Lib.hid hb
  have e0 : IntKind.i64.wrap ((m : Int) - (a : Int)) = 1 := by rw [show (m : Int) - (a : Int) = 1 by omega]; rfl
  clear h hR hcr hlt hZ hx hr hn ha hm hb
  go_enter Try.func58, Try.ntmps58
  go_wp2
  go_loopw [10, 11] (fun i j wr => LbRel g cap m b w0 f Z R x i j wr) (fun i j _ => (intOf j).toNat - (intOf i).toNat)
  case atStart => exact ⟨m, b, Nat.le_refl _, by have := HB.out; omega, Nat.le_refl _, rfl, rfl, fun k _ h => by omega, fun k h h' => by have := HB.out; omega, H.out⟩
  case round =>
    clear e0
    obtain ⟨ci, cj, h1, h2, h3, rfl, rfl, hlo, hhi, hS⟩ := hrel
    have HLO := Lib.hid hlo
    have HHI := Lib.hid hhi
    have HS := Lib.hid hS
    clear hlo hhi hS
    by_cases hij : ci < cj
    · obtain ⟨c, hc⟩ : ∃ c, (ci + cj) / 2 = c := ⟨_, rfl⟩
      have hc1 : ci ≤ c := by omega
      have hc2 : c < cj := by omega
      have i1 : (ci : Int) < (cj : Int) := by omega
      have w1' : IntKind.i64.wrap ((ci : Int) + (cj : Int)) = (ci : Int) + (cj : Int) := IntWalk.i64_in _ (by omega)
      have w2' : ((ci : Int) + (cj : Int)) / 2 = (c : Int) := by omega
      clear hc
      have hbe := HB.out
      have hme := HM.out
      have hne := HN.out
      obtain ⟨k, hk⟩ : ∃ k, c = m + k := ⟨c - m, by omega⟩
      have hkR : k < R.length := by omega
      have hcZ : m + k < Z.length := by omega
      have haZ : a < Z.length := by omega
      have c0 := HS.out.cell hcZ
      have c1 := HS.out.cell haZ
      rw [HRG.out k hkR hcZ, ← hk] at c0
      rw [HX.out haZ] at c1
      have hxn : x < n := by have := HLT.out _ (List.getElem_mem haZ); rw [HX.out haZ] at this; exact this
      have hyn : R[k] < n := by have := HLT.out _ (List.getElem_mem hcZ); rw [HRG.out k hkR hcZ] at this; exact this
      have HK := Lib.hid hk
      have hmon : ∀ j (h : j < R.length), j ≤ k → f R[j] ≤ f R[k] := fun j h hj => lex_le HR.out h hkR hj
      have hmon2 : ∀ j (h : j < R.length), k ≤ j → f R[k] ≤ f R[j] := fun j h hj => lex_le HR.out hkR h hj
      obtain ⟨y, hy⟩ : ∃ y, R[k] = y := ⟨_, rfl⟩
      rw [hy] at c0 hyn hmon hmon2
      have HMO := Lib.hid hmon
      have HMO2 := Lib.hid hmon2
      have HCL := Lib.hid (fun W (hW : Touch (fun k => k = g) w0 W) => HC.out W hW y x hyn hxn)
      obtain ⟨cc, hcc⟩ : ∃ cc, cmpF (f y) (f x) = cc := ⟨_, rfl⟩
      rw [hcc] at HCL
      have i3 : (0 : Int) ≤ (c : Int) := by omega
      have i4 : (c : Int) < (n : Int) := by omega
      have i5 : (0 : Int) ≤ (a : Int) := by omega
      have i6 : (a : Int) < (n : Int) := by omega
      have w3' : IntKind.i64.wrap ((c : Int) + 1) = (c : Int) + 1 := IntWalk.i64_in _ (by omega)
      clear hk hy hmon hmon2 hxn hyn hbe hme hne hcZ haZ
      by_cases hyx : f y < f x
      · have hcn : cc < 0 := hcc ▸ cmpF_lt hyx
        have HYX := Lib.hid hyx
        clear hcc hyx
        go_wp2
        go_region_held3 (fun W' => W'.cell? ⟨g, c, none⟩ = some (.int .i64 (y : Int)) ∧ W'.cell? ⟨g, a, none⟩ = some (.int .i64 (x : Int)))
          (exact ⟨c0, c1⟩)
          ((go_at_call 40; refine (HCL.out _ HS.out.drew.tch).mono ?_; rintro e wy ⟨rfl, q', rfl⟩))
        clear c0 c1
        go_wp2
        go_roundw
        case rel => exact ⟨c + 1, cj, by omega, by omega, h3, by go_num, rfl, fun j h hj => (by
          have := HK.out
          exact Int.lt_of_le_of_lt (HMO.out j h (by omega)) HYX.out), HHI.out, HS.out.drewN _⟩
        case measure => simp [intOf]; omega
      · have hcn : ¬ cc < 0 := hcc ▸ cmpF_ge hyx
        have HYX := Lib.hid hyx
        clear hcc hyx
        go_wp2
        go_region_held3 (fun W' => W'.cell? ⟨g, c, none⟩ = some (.int .i64 (y : Int)) ∧ W'.cell? ⟨g, a, none⟩ = some (.int .i64 (x : Int)))
          (exact ⟨c0, c1⟩)
          ((go_at_call 40; refine (HCL.out _ HS.out.drew.tch).mono ?_; rintro e wy ⟨rfl, q', rfl⟩))
        clear c0 c1
        go_wp2
        go_roundw
        case rel => exact ⟨ci, c, h1, hc1, by omega, rfl, rfl, HLO.out, fun j h hj => (by
          have := HK.out
          have h1 := HMO2.out j h (by omega)
          have h2 := HYX.out
          omega), HS.out.drewN _⟩
        case measure => simp [intOf]; omega
    · obtain rfl : ci = cj := by omega
      have i1 : ¬ (ci : Int) < (ci : Int) := by omega
      have hme := HM.out
      have hbe := HB.out
      obtain ⟨e, he⟩ : ∃ e, ci = e + 1 := ⟨ci - 1, by omega⟩
      have hS0 : LsRel g cap a w0 A R B x e (.int .i64 (a : Int)) wr := ⟨a, 0, rfl, by omega, rfl, Nat.zero_le _, by have := HS.out; rw [← HZ.out] at this; simpa using this⟩
      have HS0 := Lib.hid hS0
      have w1' : IntKind.i64.wrap ((ci : Int) - 1) = (e : Int) := by rw [show (ci : Int) - 1 = (e : Int) by omega]; exact IntWalk.i64_in _ (by omega)
      have HEe := Lib.hid (show ci = e + 1 ∧ a + 1 = m ∧ m + R.length = b ∧ m ≤ ci ∧ ci ≤ b ∧ b ≤ n from ⟨he, hme, hbe, h1, h3, by omega⟩)
      clear hme hbe he hS0 hij h1 h2 h3
      go_wp2
      go_loopw [13] (fun k wr => LsRel g cap a w0 A R B x e k wr) (fun k _ => e - (intOf k).toNat)
      case atStart => exact HS0.out
      case round =>
        clear HS HS0 i1
        obtain ⟨c, t, hct, hce, rfl, htR, hS⟩ := hrel
        obtain ⟨he, hme, hbe, h1, h3, hbn⟩ := HEe.out
        by_cases hlt : c < e
        · have htl : t < R.length := by omega
          obtain ⟨y, hy⟩ : ∃ y, R[t] = y := ⟨_, rfl⟩
          have hd : R.drop t = y :: R.drop (t + 1) := by rw [← hy]; exact (List.getElem_cons_drop htl).symm
          have htk : R.take (t + 1) = R.take t ++ [y] := by rw [List.take_succ_eq_append_getElem htl, hy]
          obtain ⟨Y, hY⟩ : ∃ Y, A ++ (R.take t ++ x :: R.drop t) ++ B = Y := ⟨_, rfl⟩
          have hY2 : (A ++ R.take t) ++ x :: y :: (R.drop (t + 1) ++ B) = Y := by rw [← hY, hd]; simp
          have hal := HA.out
          have l1 : (A ++ R.take t).length = c := by rw [List.length_append, List.length_take]; omega
          have hYl : Y.length = n := by rw [← hY2]; simp only [List.length_append, List.length_cons, List.length_drop, List.length_take]; omega
          obtain ⟨d, hde⟩ : ∃ d, c + 1 = d := ⟨_, rfl⟩
          have hi : c < Y.length := by omega
          have hj : d < Y.length := by omega
          obtain ⟨gi, gj, hsw, _⟩ := swp_next (A ++ R.take t) (R.drop (t + 1) ++ B) x y hY2 hi hj l1.symm (by omega)
          rw [hY] at hS
          have c0 := hS.cell hi
          have c1 := hS.cell hj
          rw [gi] at c0
          rw [gj] at c1
          have f0 : ∀ i, wr.frozen? ⟨g, i, none⟩ = false := fun i => hS.frozen (by omega) i
          have HSW := Lib.hid (hS.swap hi hj).drew
          rw [hsw] at HSW
          simp only [gi, gj] at HSW
          have HTK := Lib.hid htk
          have i2 : (c : Int) < (e : Int) := by omega
          have i3 : (0 : Int) ≤ (c : Int) := by omega
          have i4 : (c : Int) < (n : Int) := by omega
          have i5 : (0 : Int) ≤ (d : Int) := by omega
          have i6 : (d : Int) < (n : Int) := by omega
          have n1 : ¬ (c = d) := by omega
          have n2 : ¬ (d = c) := by omega
          have w2' : IntKind.i64.wrap ((c : Int) + 1) = (d : Int) := by rw [show (c : Int) + 1 = (d : Int) by omega]; exact IntWalk.i64_in _ (by omega)
          have HCT := Lib.hid (show d = a + (t + 1) ∧ d ≤ e ∧ t + 1 ≤ R.length ∧ c + 1 = d from ⟨by omega, by omega, by omega, hde⟩)
          clear hy hd htk hY hY2 hal l1 hYl hde gi gj hsw hS hct he hme hbe h1 h3 htl
          go_wp2
          go_region
          obtain ⟨W5, hW5⟩ : ∃ W, ((wr.setCell ⟨g, c, none⟩ (.int .i64 (y : Int))).setCell ⟨g, d, none⟩ (.int .i64 (x : Int))).drew = W := ⟨_, rfl⟩
          rw [hW5] at HSW
          rw [hW5]
          clear hW5 c0 c1 f0
          have w3' : IntKind.i64.wrap ((c : Int) + 1) = (d : Int) := w2'
          go_wp2
          go_roundw
          case rel => exact ⟨d, t + 1, HCT.out.1, HCT.out.2.1, rfl, HCT.out.2.2.1, by rw [HTK.out]; simpa using HSW.out⟩
          case measure => (have := HCT.out; simp [intOf]; omega)
        · obtain rfl : c = e := by omega
          have i2 : ¬ (c : Int) < (c : Int) := by omega
          have hlo := HLO.out
          have hhi := HHI.out
          have hres : (R.take t ++ x :: R.drop t).Perm ([x] ++ R) ∧ (R.take t ++ x :: R.drop t).Pairwise (Lex f) := by
            refine ⟨?_, ?_⟩
            · refine List.perm_middle.trans ?_
              rw [List.take_append_drop]
              exact List.Perm.refl _
            · have hp : (R.take t ++ R.drop t).Pairwise (Lex f) := by rw [List.take_append_drop]; exact HR.out
              obtain ⟨p1, p2, p3⟩ := List.pairwise_append.1 hp
              refine List.pairwise_append.2 ⟨p1, List.pairwise_cons.2 ⟨fun y hy => ?_, p2⟩, fun y hy z hz => ?_⟩
              · obtain ⟨i, hi, rfl⟩ := List.getElem_of_mem hy
                rw [List.length_drop] at hi
                rw [List.getElem_drop]
                have h1 := hhi (t + i) (by omega) (by omega)
                have h2 := HCR.out _ (List.getElem_mem (show t + i < R.length by omega))
                unfold Lex
                omega
              · rcases List.mem_cons.1 hz with rfl | hz
                · obtain ⟨i, hi, rfl⟩ := List.getElem_of_mem hy
                  rw [List.length_take] at hi
                  rw [List.getElem_take]
                  exact .inl (hlo i (by omega) (by omega))
                · exact p3 y hy z hz
          have HRES := Lib.hid hres
          have HSS := Lib.hid hS
          clear hres hS hlo hhi hct he hme hbe h1 h3
          go_wp2
          go_end0
          exact ⟨rfl, _, HRES.out.1, HRES.out.2, HSS.out⟩
end Go.Proofs.Ytjlghmjngiegaaa
