/- The comparison by keys as a closure; slices.insertionSort with it. -/
import Derived.Test.YtjlghmjngiegaaaZA
import Derived.Deep.RegionHeld3
import Derived.BigQuiet
namespace Go.Proofs.Ytjlghmjngiegaaa
open Go Go.Gauge Go.RowKit
def cmpF (x y : Int) : Int := if x < y then -1 else if y < x then 1 else 0
theorem cmpF_lt {x y : Int} (h : x < y) : cmpF x y < 0 := by unfold cmpF; rw [if_pos h]; decide
theorem cmpF_ge {x y : Int} (h : ¬ x < y) : ¬ cmpF x y < 0 := by unfold cmpF; rw [if_neg h]; split <;> decide
/-- the closure answers by keys, whatever has become of the row -/
def CmpOk (g bx n : Nat) (w0 : World) (f : Nat → Int) : Prop := ∀ W, Touch (fun k => k = g) w0 W → ∀ a b : Nat, a < n → b < n → Calls Try.prog 40 #[.int .i64 (a : Int), .int .i64 (b : Int), .pointer (some ⟨bx, 0, none⟩)] W fun e w' => e = .returned (.int .i64 (cmpF (f a) (f b))) ∧ ∃ q, w' = W.drewN q
def InsOut (g cap : Nat) (w0 : World) (f : Nat → Int) (S B : List Nat) (a : Nat) (A : List Nat) (i : Value) (wr : World) : Prop :=
  ∃ (c k : Nat) (P : List Nat), 1 ≤ k ∧ (k ≤ S.length ∨ S = [] ∧ k = 1) ∧ c = a + k ∧ i = .int .i64 (c : Int) ∧ P.Perm (S.take k) ∧ P.Pairwise (Lex f) ∧ St g cap w0 (A ++ P ++ S.drop k ++ B) wr
def InsIn (g cap : Nat) (w0 : World) (f : Nat → Int) (P R : List Nat) (x a : Nat) (A : List Nat) (j : Value) (wr : World) : Prop :=
  ∃ (c : Nat) (P1 P2 : List Nat), P1 ++ P2 = P ∧ c = a + P1.length ∧ j = .int .i64 (c : Int) ∧ (∀ y ∈ P2, f x < f y) ∧ St g cap w0 (A ++ (P1 ++ x :: P2) ++ R) wr
/-- two neighbours change places -/
theorem swp_next (A B : List Nat) (x y : Nat) {Z : List Nat} (hZ : A ++ x :: y :: B = Z) {i j : Nat} (hi : i < Z.length) (hj : j < Z.length) (ei : i = A.length) (ej : j = A.length + 1) : Z[i] = x ∧ Z[j] = y ∧ swp Z i j hi hj = A ++ y :: x :: B ∧ swp Z j i hj hi = A ++ y :: x :: B := by
  subst hZ ei ej
  have h := swp_mid A [] B x y (by simp) (by simp)
  simp only [List.length_nil, Nat.add_zero, List.nil_append] at h
  refine ⟨by simp, by rw [List.getElem_append_right (by omega)]; simp, h, ?_⟩
  rw [← h]
  unfold swp
  rw [List.set_comm _ _ (by omega)]
set_option maxRecDepth 100000 in
set_option maxHeartbeats 4000000 in
theorem insertion_any {g cap n bx : Nat} {w0 w : World} {f : Nat → Int} {A S B : List Nat} (h : St g cap w0 (A ++ S ++ B) w) (HC : CmpOk g bx n w0 f) (hS : S.Pairwise (· < ·)) (hlt : ∀ x ∈ A ++ S ++ B, x < n) (hn : (A ++ S ++ B).length = n) (hbig : n ≤ 100000) {a b : Nat} (ha : A.length = a) (hb : A.length + S.length = b) :
    Calls Try.prog 57 #[.slice (some ⟨g, 0, none⟩) n cap, .int .i64 (a : Int), .int .i64 (b : Int), .func (.func 40) #[] #[.pointer (some ⟨bx, 0, none⟩)]] w fun e w' => e = .returned (.tuple #[]) ∧ ∃ P, P.Perm S ∧ P.Pairwise (Lex f) ∧ St g cap w0 (A ++ P ++ B) w' := by
  have H := Lib.hid h
  have HC := Lib.hid HC
  have HSP := Lib.hid hS
  have HLT := Lib.hid hlt
  obtain ⟨s, hs⟩ : ∃ s, S.length = s := ⟨_, rfl⟩
  have hnl : a + s + B.length = n := by simp only [List.length_append] at hn; omega
  have hb : a + s = b := by omega
  have HA := Lib.hid ha
  have HB := Lib.hid hb
  have HS := Lib.hid hs
  clear h hS hlt ha hs hn hb
  have w1' : IntKind.i64.wrap ((a : Int) + 1) = (a : Int) + 1 := IntWalk.i64_in _ (by omega)
  go_enter Try.func57, Try.ntmps57
  go_wp2
  go_loopw [8] (fun i wr => InsOut g cap w0 f S B a A i wr) (fun i _ => b + 1 - (intOf i).toNat)
  case atStart =>
    refine ⟨a + 1, 1, S.take 1, Nat.le_refl _, ?_, rfl, by go_num, List.Perm.refl _, ?_, ?_⟩
    · have := HS.out
      rcases Nat.eq_zero_or_pos s with h0 | h0
      · exact .inr ⟨List.eq_nil_of_length_eq_zero (by omega), rfl⟩
      · exact .inl (by omega)
    · cases S <;> simp
    · have := H.out
      rw [List.append_assoc A, List.take_append_drop]; exact this
  case round =>
    clear w1'
    obtain ⟨c, k, P, hk1, hk, hck, rfl, hP, hPL, hSt⟩ := hrel
    have hbe := HB.out
    by_cases hlt : c < b
    · have hsl := HS.out
      have hkS : k < S.length := by omega
      obtain ⟨x, hx⟩ : ∃ x, S[k] = x := ⟨_, rfl⟩
      have hdrop : S.drop k = x :: S.drop (k + 1) := by rw [← hx]; exact (List.getElem_cons_drop hkS).symm
      have hPl : P.length = k := by rw [hP.length_eq, List.length_take]; omega
      have hPx : ∀ y ∈ P, y < x := fun y hy => by
        obtain ⟨i, hi, rfl⟩ := List.getElem_of_mem (hP.mem_iff.1 hy)
        rw [List.length_take] at hi
        rw [List.getElem_take, ← hx]
        exact List.pairwise_iff_getElem.1 HSP.out i k (by omega) hkS (by omega)
      obtain ⟨R, hR⟩ : ∃ R, S.drop (k + 1) ++ B = R := ⟨_, rfl⟩
      have htk : S.take (k + 1) = S.take k ++ [x] := by rw [List.take_succ_eq_append_getElem hkS, hx]
      have HTK := Lib.hid htk
      have HP := Lib.hid hP
      have HPL := Lib.hid hPL
      have HPl := Lib.hid hPl
      have HPX := Lib.hid hPx
      have HR := Lib.hid hR
      have hin : InsIn g cap w0 f P R x a A (.int .i64 (c : Int)) wr := ⟨c, P, [], by simp, by omega, rfl, fun y hy => (by cases hy), by rw [hdrop] at hSt; rw [← hR]; simpa using hSt⟩
      have HIN := Lib.hid hin
      have hnR : c + 1 + R.length = n := by rw [← hR]; simp only [List.length_append, List.length_drop]; omega
      have hmem : ∀ y ∈ x :: P, y < n := fun y hy => HLT.out y (by
        rcases List.mem_cons.1 hy with rfl | hy
        · rw [← hx]; simp
        · have := List.mem_of_mem_take (hP.mem_iff.1 hy); simp [this])
      have HM := Lib.hid hmem
      have i1 : (c : Int) < (b : Int) := by omega
      have hfin : ∀ (P1 P2 : List Nat) (wz : World), P1 ++ P2 = P → (∀ y ∈ P2, f x < f y) → (∀ h : 0 < P1.length, ¬ f x < f (P1[P1.length - 1]'(Nat.sub_lt h Nat.one_pos))) → St g cap w0 (A ++ (P1 ++ x :: P2) ++ R) wz → InsOut g cap w0 f S B a A (.int .i64 ((c : Int) + 1)) wz := fun P1 P2 wz h1 h2 h3 h4 => by
        subst h1
        have hl := lex_insert (f := f) (P := P1 ++ P2) (x := x) (k := P1.length) HPL.out HPX.out (by simp) (by simpa using h2) (fun h => by rw [List.getElem_append_left (by omega)]; exact h3 h)
        rw [List.take_left, List.drop_left] at hl
        refine ⟨c + 1, k + 1, P1 ++ x :: P2, by omega, .inl (by have := HS.out; omega), by omega, by go_num, ?_, hl.1, ?_⟩
        · rw [HTK.out]
          exact hl.2.trans (((List.Perm.cons x HP.out)).trans (List.perm_append_comm (l₁ := [x])))
        · rw [List.append_assoc _ _ B, HR.out]; exact h4
      have HFIN := Lib.hid hfin
      have HCK := Lib.hid hck
      clear hdrop hx htk hP hPL hPl hPx hR hin hSt hsl hkS hmem hfin hck hbe
      have w2' : IntKind.i64.wrap ((c : Int) + 1) = (c : Int) + 1 := IntWalk.i64_in _ (by omega)
      go_wp2
      go_loopw [9] (fun j wr => InsIn g cap w0 f P R x a A j wr) (fun j _ => (intOf j).toNat)
      case atStart => exact HIN.out
      case round =>
        obtain ⟨d, P1, P2, hPP, hd, rfl, hgt, hSt⟩ := hrel
        have HPP := Lib.hid hPP
        have HGT := Lib.hid hgt
        have HSt := Lib.hid hSt
        have hpk : d ≤ c := by have := HCK.out; have := HPl.out; have := congrArg List.length hPP; rw [List.length_append] at this; omega
        by_cases h0 : d = a
        · subst h0
          have HP0 := Lib.hid (show P1.length = 0 by omega)
          have j1 : ¬ (d : Int) < (d : Int) := by omega
          clear hPP hgt hSt hd
          go_wp2
          go_quiet (fail)
          go_wp2
          go_roundw
          case rel => exact HFIN.out P1 P2 _ HPP.out HGT.out (fun h => by have := HP0.out; omega) (HSt.out.drewN _)
          case measure => simp [intOf]; omega
        · obtain ⟨e, rfl⟩ : ∃ e, d = e + 1 := ⟨d - 1, by omega⟩
          obtain ⟨P0, y, rfl⟩ : ∃ P0 y, P1 = P0 ++ [y] := ⟨P1.dropLast, P1.getLast (by intro e; rw [e] at hd; simp at hd; omega), (List.dropLast_concat_getLast _).symm⟩
          rw [List.length_append, List.length_singleton] at hd
          obtain ⟨d, hde⟩ : ∃ d, e + 1 = d := ⟨_, rfl⟩
          obtain ⟨Z, hZ⟩ : ∃ Z, A ++ (P0 ++ [y] ++ x :: P2) ++ R = Z := ⟨_, rfl⟩
          have hal := HA.out
          have hlP2 : P2.length + P0.length + 1 = k := by have := HPl.out; have := congrArg List.length hPP; simp only [List.length_append, List.length_singleton] at this; omega
          have hZ2 : (A ++ P0) ++ y :: x :: (P2 ++ R) = Z := by rw [← hZ]; simp
          have hZl : Z.length = n := by have := HCK.out; rw [← hZ2]; simp only [List.length_append, List.length_cons]; omega
          have hi : e < Z.length := by omega
          have hj : d < Z.length := by omega
          obtain ⟨gi, gj, _, hsw⟩ := swp_next (A ++ P0) (P2 ++ R) y x hZ2 hi hj (by rw [List.length_append]; omega) (by rw [List.length_append]; omega)
          rw [hZ] at hSt
          have c0 := hSt.cell hi
          have c1 := hSt.cell hj
          rw [gi] at c0
          rw [gj] at c1
          have hyx : y < n ∧ x < n := ⟨HM.out y (by rw [← hPP]; simp), HM.out x (by simp)⟩
          have HSS := Lib.hid hSt
          have HCL := Lib.hid (fun W (hW : Touch (fun k => k = g) w0 W) => HC.out W hW x y hyx.2 hyx.1)
          have i2 : (a : Int) < (d : Int) := by omega
          have i3 : (0 : Int) ≤ (d : Int) := by omega
          have i4 : (d : Int) < (n : Int) := by omega
          have i5 : (0 : Int) ≤ (e : Int) := by omega
          have i6 : (e : Int) < (n : Int) := by omega
          have e1 : IntKind.i64.wrap ((d : Int) - 1) = (e : Int) := by rw [show (d : Int) - 1 = (e : Int) by omega]; exact IntWalk.i64_in _ (by omega)
          obtain ⟨cc, hcc⟩ : ∃ cc, cmpF (f x) (f y) = cc := ⟨_, rfl⟩
          rw [hcc] at HCL
          have HZ := Lib.hid hZ
          have HD := Lib.hid hd
          have HDE := Lib.hid hde
          have HSW := Lib.hid (fun q' => (hSt.drewN q').swap hj hi)
          rw [hsw] at HSW
          simp only [gi, gj] at HSW
          have HE := Lib.hid (show P0 ++ (y :: P2) = P from by rw [← hPP]; simp)
          rw [hde]
          clear hZ hZ2 hlP2 gi gj hsw hPP hgt hSt hal hyx hd hde
          by_cases hxy : f x < f y
          · have hcn : cc < 0 := hcc ▸ cmpF_lt hxy
            have HXY := Lib.hid hxy
            clear hcc hxy
            go_wp2
            go_region_held3 (fun W' => W'.cell? ⟨g, d, none⟩ = some (.int .i64 (x : Int)) ∧ W'.cell? ⟨g, e, none⟩ = some (.int .i64 (y : Int)))
              (exact ⟨c1, c0⟩)
              ((go_at_call 40; refine (HCL.out _ HSS.out.drew.tch).mono ?_; rintro e wy ⟨rfl, q', rfl⟩))
            have n1 : ¬ (e = d) := by have := HDE.out; omega
            have n2 : ¬ (d = e) := by have := HDE.out; omega
            have f0 : ∀ i, wr.frozen? ⟨g, i, none⟩ = false := fun i => HSS.out.frozen (by omega) i
            go_wp2
            go_region
            have HX := Lib.hid (HSW.out (1 + q' + 1))
            obtain ⟨W5, hW5⟩ : ∃ W, ((wr.drewN (1 + q' + 1)).setCell ⟨g, d, none⟩ (.int .i64 (y : Int))).setCell ⟨g, e, none⟩ (.int .i64 (x : Int)) = W := ⟨_, rfl⟩
            rw [hW5] at HX
            rw [hW5]
            clear hW5 c0 c1 f0
            go_wp2
            go_roundw
            case rel => exact ⟨e, P0, y :: P2, HE.out, by have := HD.out; omega, rfl, fun z hz => (by
              rcases List.mem_cons.1 hz with rfl | hz
              · exact HXY.out
              · exact HGT.out z hz), by have := HX.out; simpa using this⟩
            case measure => (have := HDE.out; simp [intOf]; omega)
          · have hcn : ¬ cc < 0 := hcc ▸ cmpF_ge hxy
            have HXY := Lib.hid hxy
            clear hcc hxy
            go_wp2
            go_region_held3 (fun W' => W'.cell? ⟨g, d, none⟩ = some (.int .i64 (x : Int)) ∧ W'.cell? ⟨g, e, none⟩ = some (.int .i64 (y : Int)))
              (exact ⟨c1, c0⟩)
              ((go_at_call 40; refine (HCL.out _ HSS.out.drew.tch).mono ?_; rintro e wy ⟨rfl, q', rfl⟩))
            clear c0 c1
            go_wp2
            go_roundw
            case rel => exact HFIN.out (P0 ++ [y]) P2 _ HPP.out HGT.out (fun h => by simpa using HXY.out) (HSt.out.drewN _)
            case measure => simp [intOf]; omega
    · have hk2 : S.take k = S := by
        have := HS.out
        rcases hk with h | ⟨h, _⟩
        · exact List.take_of_length_le (by omega)
        · rw [h]; simp
      have hk3 : S.drop k = [] := by
        have := HS.out
        rcases hk with h | ⟨h, _⟩
        · exact List.drop_of_length_le (by omega)
        · rw [h]; simp
      rw [hk2] at hP
      rw [hk3] at hSt
      have HP := Lib.hid hP
      have HPL := Lib.hid hPL
      have HSt := Lib.hid hSt
      have i1 : ¬ (c : Int) < (b : Int) := by omega
      clear hP hPL hSt hck hk2 hk3 hbe
      go_wp2
      go_end0
      exact ⟨rfl, P, HP.out, HPL.out, by simpa using HSt.out⟩
end Go.Proofs.Ytjlghmjngiegaaa
