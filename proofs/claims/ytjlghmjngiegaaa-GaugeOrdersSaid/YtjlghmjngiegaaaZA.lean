/- A row of whole numbers that is turned about in place: the state, swaps, slices.swapRange and rotate. -/
import Derived.Test.YtjlghmjngiegaaaR
import Derived.Test.YtjlghmjngiegaaaFT
import Derived.Test.YtjlghmjngiegaaaW2
import Derived.BigRegion
import Derived.WalkMore
namespace Go.Proofs.Ytjlghmjngiegaaa
open Go Go.Gauge Go.RowKit
def nC (x : Nat) : List Value := [.int .i64 (x : Int)]
/-- the row at g holds Z; all else is as in w0 -/
structure St (g cap : Nat) (w0 : World) (Z : List Nat) (w : World) : Prop where
  own : w.ownsRow 0 3 1 (.slice (some ⟨g, 0, none⟩) Z.length cap) Z.length (Z.flatMap nC)
  tch : Touch (fun k => k = g) w0 w
section
variable {g cap n : Nat} {w0 w : World} {Z : List Nat}
theorem nC_get (Z : List Nat) (j : Nat) (h : j < Z.length) : (Z.flatMap nC)[j]? = some (.int .i64 (Z[j] : Int)) := by
  have := Go.Proofs.Ytjlghmjngiegaaa.flat_mid nC 1 (fun _ => rfl) (Z.take j) (Z.drop (j + 1)) Z[j] 0 (.int .i64 (Z[j] : Int)) rfl
  rw [List.length_take, Nat.min_eq_left (by omega), Nat.mul_one, Nat.add_zero, List.getElem_cons_drop, List.take_append_drop] at this
  exact this
theorem St.cell (h : St g cap w0 Z w) {j : Nat} (hj : j < Z.length) : w.cell? ⟨g, j, none⟩ = some (.int .i64 (Z[j] : Int)) := (own_cell h.own j _ (nC_get Z j hj)).1
theorem St.frozen (h : St g cap w0 Z w) (hn : 0 < Z.length) (j : Nat) : w.frozen? ⟨g, j, none⟩ = false := own_frozen h.own hn j
theorem St.drew (h : St g cap w0 Z w) : St g cap w0 Z w.drew := ⟨own_touch h.own (Touch.refl (fun _ => False) w).drew (fun _ _ h => h), h.tch.drew⟩
theorem St.drewN (h : St g cap w0 Z w) : ∀ q, St g cap w0 Z (w.drewN q)
  | 0 => h
  | q + 1 => (h.drewN q).drew
theorem St.set (h : St g cap w0 Z w) {j : Nat} (hj : j < Z.length) (x : Nat) : St g cap w0 (Z.set j x) (w.setCell ⟨g, j, none⟩ (.int .i64 (x : Int))) := by
  have hz : Z = Z.take j ++ Z[j] :: Z.drop (j + 1) := by rw [List.getElem_cons_drop, List.take_append_drop]
  have ho := h.own
  have e1 : Z.flatMap nC = (Z.take j).flatMap nC ++ nC Z[j] ++ (Z.drop (j + 1)).flatMap nC := by
    have := congrArg (List.flatMap nC) hz
    rw [List.flatMap_append, List.flatMap_cons] at this
    rw [List.append_assoc]
    exact this
  rw [e1] at ho
  have h2 := own_sets ho (nC x) rfl (by omega)
  have hl : ((Z.take j).flatMap nC).length = j := by rw [flatl nC 1 (fun _ => rfl), List.length_take]; omega
  rw [hl] at h2
  have e2 : (Z.set j x).flatMap nC = (Z.take j).flatMap nC ++ nC x ++ (Z.drop (j + 1)).flatMap nC := by
    rw [List.set_eq_take_append_cons_drop, if_pos hj]; simp
  refine ⟨?_, h.tch.setCell (p := ⟨g, j, none⟩) (fun _ => rfl) _⟩
  rw [e2, List.length_set]
  exact h2
/-- two change places -/
def swp (Z : List Nat) (i j : Nat) (hi : i < Z.length) (hj : j < Z.length) : List Nat := (Z.set i Z[j]).set j Z[i]
theorem St.swap (h : St g cap w0 Z w) {i j : Nat} (hi : i < Z.length) (hj : j < Z.length) : St g cap w0 (swp Z i j hi hj) ((w.setCell ⟨g, i, none⟩ (.int .i64 (Z[j] : Int))).setCell ⟨g, j, none⟩ (.int .i64 (Z[i] : Int))) :=
  (h.set hi Z[j]).set (by rw [List.length_set]; exact hj) Z[i]
theorem swp_mid (A M B : List Nat) (x y : Nat) (hi : A.length < (A ++ x :: (M ++ y :: B)).length) (hj : A.length + 1 + M.length < (A ++ x :: (M ++ y :: B)).length) : swp (A ++ x :: (M ++ y :: B)) A.length (A.length + 1 + M.length) hi hj = A ++ y :: (M ++ x :: B) := by
  have hx : (A ++ x :: (M ++ y :: B))[A.length]'hi = x := by simp
  have hy : (A ++ x :: (M ++ y :: B))[A.length + 1 + M.length]'hj = y := by
    rw [List.getElem_append_right (by omega)]
    simp only [show A.length + 1 + M.length - A.length = M.length + 1 by omega, List.getElem_cons_succ]
    simp
  unfold swp
  rw [hx, hy, List.set_append_right _ _ (by omega), Nat.sub_self, List.set_cons_zero, List.set_append_right _ _ (by omega), show A.length + 1 + M.length - A.length = M.length + 1 by omega, List.set_cons_succ, List.set_append_right _ _ (by omega), Nat.sub_self, List.set_cons_zero]
end
def SwRel (g cap : Nat) (w0 : World) (A U M V B : List Nat) (i : Value) (wr : World) : Prop := ∃ k : Nat, k ≤ U.length ∧ i = .int .i64 k ∧ St g cap w0 (A ++ V.take k ++ U.drop k ++ M ++ U.take k ++ V.drop k ++ B) wr
set_option maxRecDepth 100000 in
set_option maxHeartbeats 2000000 in
theorem swapRange_any {g cap n : Nat} {w0 w : World} {A U M V B : List Nat} (h : St g cap w0 (A ++ U ++ M ++ V ++ B) w) (huv : V.length = U.length) (fv : Value) (hn : (A ++ U ++ M ++ V ++ B).length = n) (hbig : n ≤ 100000) :
    Calls Try.prog 66 #[.slice (some ⟨g, 0, none⟩) n cap, .int .i64 (A.length : Nat), .int .i64 ((A.length + U.length + M.length : Nat) : Int), .int .i64 (U.length : Nat), fv] w fun e w' => e = .returned (.tuple #[]) ∧ St g cap w0 (A ++ V ++ M ++ U ++ B) w' := by
  have H := Lib.hid h
  clear h
  obtain ⟨b, hb⟩ : ∃ b, A.length + U.length + M.length = b := ⟨_, rfl⟩
  obtain ⟨a, ha⟩ : ∃ a, A.length = a := ⟨_, rfl⟩
  obtain ⟨u, hu⟩ : ∃ u, U.length = u := ⟨_, rfl⟩
  have hnl : a + u + M.length + u + B.length = n := by simp only [List.length_append] at hn; omega
  rw [hb, ha, hu]
  have HA := Lib.hid ha
  have HU := Lib.hid hu
  have HB := Lib.hid hb
  have HV := Lib.hid huv
  have HN := Lib.hid hn
  have hbe : a + u + M.length = b := by omega
  have HBE := Lib.hid hbe
  clear ha hu hb hn
  go_enter Try.func66, Try.ntmps66
  go_wp2
  go_loopw [10] (fun i wr => SwRel g cap w0 A U M V B i wr) (fun i _ => u - (intOf i).toNat)
  case atStart => exact ⟨0, Nat.zero_le _, rfl, by simpa using H.out⟩
  case round =>
    obtain ⟨k, hk, rfl, hS⟩ := hrel
    have hS0 := Lib.hid hS
    have hul := HU.out
    have hal := HA.out
    have hvl := HV.out
    have hbe := HBE.out
    by_cases hlt : k < u
    · obtain ⟨Z, hZ⟩ : ∃ Z, A ++ V.take k ++ U.drop k ++ M ++ U.take k ++ V.drop k ++ B = Z := ⟨_, rfl⟩
      have hZl : Z.length = n := by rw [← hZ, ← HN.out]; simp only [List.length_append, List.length_take, List.length_drop]; omega
      rw [hZ] at hS
      have hi : a + k < Z.length := by omega
      have hj : b + k < Z.length := by omega
      have c0 := hS.cell hi
      have c1 := hS.cell hj
      have f0 := fun i => hS.frozen (by omega) i
      have i1 : (0 : Int) ≤ (a : Int) + (k : Int) := by omega
      have i2 : (a : Int) + (k : Int) < (n : Int) := by omega
      have i3 : (0 : Int) ≤ (b : Int) + (k : Int) := by omega
      have i4 : (b : Int) + (k : Int) < (n : Int) := by omega
      have i5 : (k : Int) < (u : Int) := by omega
      have w1' : IntKind.i64.wrap ((a : Int) + (k : Int)) = (a : Int) + (k : Int) := IntWalk.i64_in _ (by omega)
      have w2' : IntKind.i64.wrap ((b : Int) + (k : Int)) = (b : Int) + (k : Int) := IntWalk.i64_in _ (by omega)
      have t1 : ((a : Int) + (k : Int)).toNat = a + k := by omega
      have t2 : ((b : Int) + (k : Int)).toNat = b + k := by omega
      have HSW := Lib.hid (hS.swap hi hj)
      have HE := Lib.hid (show swp Z (a + k) (b + k) hi hj = A ++ V.take (k + 1) ++ U.drop (k + 1) ++ M ++ U.take (k + 1) ++ V.drop (k + 1) ++ B from by
        have hku : k < U.length := by omega
        have hkv : k < V.length := by omega
        have e1 : Z = (A ++ V.take k) ++ U[k] :: ((U.drop (k + 1) ++ M ++ U.take k) ++ V[k] :: (V.drop (k + 1) ++ B)) := by
          rw [← hZ, List.drop_eq_getElem_cons hku, List.drop_eq_getElem_cons hkv]; simp only [List.append_assoc, List.cons_append]
        have l1 : (A ++ V.take k).length = a + k := by rw [List.length_append, List.length_take]; omega
        have l2 : (A ++ V.take k).length + 1 + (U.drop (k + 1) ++ M ++ U.take k).length = b + k := by simp only [List.length_append, List.length_take, List.length_drop]; omega
        have := swp_mid (A ++ V.take k) (U.drop (k + 1) ++ M ++ U.take k) (V.drop (k + 1) ++ B) U[k] V[k] (by simp) (by simp only [List.length_append, List.length_cons]; omega)
        simp only [l1] at this
        subst e1
        have l3 : b + k = a + k + 1 + (U.drop (k + 1) ++ M ++ U.take k).length := by omega
        simp only [l3]
        rw [this, List.take_succ_eq_append_getElem hku, List.take_succ_eq_append_getElem hkv]
        simp only [List.append_assoc, List.cons_append, List.nil_append])
      rw [HE.out] at HSW
      obtain ⟨x, hx⟩ : ∃ x, Z[a + k] = x := ⟨_, rfl⟩
      obtain ⟨y, hy⟩ : ∃ x, Z[b + k] = x := ⟨_, rfl⟩
      rw [hx] at c0 HSW
      rw [hy] at c1 HSW
      clear hS hx hy hZ
      go_wp2
      go_region
      have HX := Lib.hid HSW.out.drew
      clear HSW c0 c1
      obtain ⟨W5, hW5⟩ : ∃ W, ((wr.setCell ⟨g, a + k, none⟩ (.int .i64 (y : Int))).setCell ⟨g, b + k, none⟩ (.int .i64 (x : Int))).drew = W := ⟨_, rfl⟩
      rw [hW5] at HX
      rw [hW5]
      clear hW5
      go_wp2
      go_roundw
      case rel => exact ⟨k + 1, by omega, by go_num, HX.out⟩
      case measure => simp [intOf]; omega
    · obtain rfl : k = u := by omega
      have i5 : ¬ (k : Int) < (k : Int) := by omega
      have HE := Lib.hid (show A ++ V.take k ++ U.drop k ++ M ++ U.take k ++ V.drop k ++ B = A ++ V ++ M ++ U ++ B from by
        rw [List.take_of_length_le (by omega), List.take_of_length_le (by omega), List.drop_of_length_le (by omega), List.drop_of_length_le (by omega)]; simp)
      rw [HE.out] at hS0
      clear hS
      go_wp2
      go_end0
      exact ⟨rfl, by simpa using hS0.out⟩
def RoRel (g cap m : Nat) (w0 : World) (T : List Nat) (i j : Value) (wr : World) : Prop := ∃ A U V B : List Nat, 0 < U.length ∧ 0 < V.length ∧ A.length + U.length = m ∧ i = .int .i64 (U.length : Nat) ∧ j = .int .i64 (V.length : Nat) ∧ A ++ V ++ U ++ B = T ∧ St g cap w0 (A ++ U ++ V ++ B) wr
set_option maxRecDepth 100000 in
set_option maxHeartbeats 2000000 in
theorem rotate_any {g cap n : Nat} {w0 w : World} {A U V B : List Nat} (h : St g cap w0 (A ++ U ++ V ++ B) w) (hu : 0 < U.length) (hv : 0 < V.length) (fv : Value) (hn : (A ++ U ++ V ++ B).length = n) (hbig : n ≤ 100000) :
    Calls Try.prog 64 #[.slice (some ⟨g, 0, none⟩) n cap, .int .i64 (A.length : Nat), .int .i64 ((A.length + U.length : Nat) : Int), .int .i64 ((A.length + U.length + V.length : Nat) : Int), fv] w fun e w' => e = .returned (.tuple #[]) ∧ St g cap w0 (A ++ V ++ U ++ B) w' := by
  obtain ⟨T, hT⟩ : ∃ T, A ++ V ++ U ++ B = T := ⟨_, rfl⟩
  have hTl : T.length = n := by rw [← hT, ← hn]; simp only [List.length_append]; omega
  rw [hT]
  have H := Lib.hid h
  have HT := Lib.hid hT
  have HTL := Lib.hid hTl
  clear h hT hTl hn
  obtain ⟨m, hm⟩ : ∃ m, A.length + U.length = m := ⟨_, rfl⟩
  have hb : ((A.length + U.length + V.length : Nat) : Int) - ((A.length + U.length : Nat) : Int) = (V.length : Int) := by omega
  have ha : ((A.length + U.length : Nat) : Int) - (A.length : Int) = (U.length : Int) := by omega
  have hml := HTL.out
  rw [← HT.out] at hml
  simp only [List.length_append] at hml
  have w1' : IntKind.i64.wrap (U.length : Int) = (U.length : Int) := IntWalk.i64_in _ (by omega)
  have w2' : IntKind.i64.wrap (V.length : Int) = (V.length : Int) := IntWalk.i64_in _ (by omega)
  obtain ⟨b, hbe⟩ : ∃ b, A.length + U.length + V.length = b := ⟨_, rfl⟩
  rw [hbe, hm] at hb
  rw [hm] at ha
  rw [hbe, hm]
  have HM := Lib.hid hm
  clear hm hbe hml
  go_enter Try.func64, Try.ntmps64
  go_wp2
  go_loopw [10, 11] (fun i j wr => RoRel g cap m w0 T i j wr) (fun i j _ => (intOf i).toNat + (intOf j).toNat)
  case atStart => exact ⟨A, U, V, B, hu, hv, HM.out, rfl, rfl, HT.out, H.out⟩
  case round =>
    clear hb ha w1' w2' H HT HM hu hv
    obtain ⟨A, U, V, B, hu, hv, hm, rfl, rfl, hT, hS⟩ := hrel
    have hml := HTL.out
    rw [← hT] at hml
    simp only [List.length_append] at hml
    obtain ⟨u, hUl⟩ : ∃ u, U.length = u := ⟨_, rfl⟩
    obtain ⟨v, hVl⟩ : ∃ v, V.length = v := ⟨_, rfl⟩
    obtain ⟨a, hAl⟩ : ∃ a, A.length = a := ⟨_, rfl⟩
    rw [hUl, hVl, hAl] at hml
    rw [hUl, hAl] at hm
    rw [hUl] at hu
    rw [hVl] at hv
    rw [hUl, hVl]
    have HS := Lib.hid hS
    have HT := Lib.hid hT
    have e1 : IntKind.i64.wrap ((m : Int) - (u : Int)) = (a : Int) := by rw [show (m : Int) - (u : Int) = (a : Int) by omega]; exact IntWalk.i64_in _ (by omega)
    have HM := Lib.hid hm
    have HUl := Lib.hid hUl
    have HVl := Lib.hid hVl
    have HAl := Lib.hid hAl
    have HML := Lib.hid hml
    clear hS hT
    rcases Nat.lt_trichotomy u v with hlt | heq | hgt
    · have e2 : IntKind.i64.wrap ((m : Int) + (v : Int)) = (m : Int) + (v : Int) := IntWalk.i64_in _ (by omega)
      have e3 : IntKind.i64.wrap ((m : Int) + (v : Int) - (u : Int)) = ((a + u + (v - u) : Nat) : Int) := by
        rw [show (m : Int) + (v : Int) - (u : Int) = ((a + u + (v - u) : Nat) : Int) by omega]; exact IntWalk.i64_in _ (by omega)
      have e4 : IntKind.i64.wrap ((v : Int) - (u : Int)) = ((v - u : Nat) : Int) := by rw [show (v : Int) - (u : Int) = ((v - u : Nat) : Int) by omega]; exact IntWalk.i64_in _ (by omega)
      have i1 : ¬ (v : Int) < (u : Int) := by omega
      have i2 : ((u : Int) != (v : Int)) = true := by simp; omega
      have hV : V.take (v - u) ++ V.drop (v - u) = V := List.take_append_drop _ _
      have hl1 : (V.take (v - u)).length = v - u := by rw [List.length_take]; omega
      have hl2 : (V.drop (v - u)).length = u := by rw [List.length_drop]; omega
      obtain ⟨V1, hV1⟩ : ∃ V1, V.take (v - u) = V1 := ⟨_, rfl⟩
      obtain ⟨V2, hV2⟩ : ∃ V2, V.drop (v - u) = V2 := ⟨_, rfl⟩
      rw [hV1, hV2] at hV
      rw [hV1] at hl1
      rw [hV2] at hl2
      have hsw := swapRange_any (g := g) (cap := cap) (n := n) (w0 := w0) (w := wr) (A := A) (U := U) (M := V1) (V := V2) (B := B) (by rw [show A ++ U ++ V1 ++ V2 ++ B = A ++ U ++ V ++ B by rw [← hV]; simp]; exact HS.out) (by omega) fv (by simp only [List.length_append]; omega) hbig
      rw [hl1, hUl, hAl] at hsw
      have HSW := Lib.hid hsw
      have HVV := Lib.hid hV
      have HL1 := Lib.hid hl1
      have HL2 := Lib.hid hl2
      clear hsw hV hV1 hV2 hl1 hl2 hml hUl hVl hAl hm
      go_wp2_with (go_at_call 66; refine HSW.out.mono ?_; rintro e w5 ⟨rfl, h5⟩)
      go_roundw
      case rel => exact ⟨A, V2, V1, U ++ B, by have := HL2.out; omega, by have := HL1.out; omega, by have := HL2.out; have := HM.out; have := HAl.out; omega, by rw [HL2.out], by rw [HL1.out], by rw [← HT.out, ← HVV.out]; simp, by simpa using h5⟩
      case measure => simp [intOf]; omega
    · subst heq
      have hsw := swapRange_any (g := g) (cap := cap) (n := n) (w0 := w0) (w := wr) (A := A) (U := U) (M := []) (V := V) (B := B) (by simpa using HS.out) (by omega) fv (by simp only [List.length_append, List.length_nil]; omega) hbig
      rw [hAl, hUl, List.length_nil, Nat.add_zero, hm] at hsw
      have HSW := Lib.hid hsw
      clear hsw hml hUl hVl hAl hm
      go_wp2_with (go_at_call 66; refine HSW.out.mono ?_; rintro e w5 ⟨rfl, h5⟩)
      go_end0
      exact ⟨rfl, by rw [← HT.out]; simpa using h5⟩
    · have e4 : IntKind.i64.wrap ((u : Int) - (v : Int)) = ((u - v : Nat) : Int) := by rw [show (u : Int) - (v : Int) = ((u - v : Nat) : Int) by omega]; exact IntWalk.i64_in _ (by omega)
      have i1 : (v : Int) < (u : Int) := by omega
      have i2 : ((u : Int) != (v : Int)) = true := by simp; omega
      have hV : U.take v ++ U.drop v = U := List.take_append_drop _ _
      have hl1 : (U.take v).length = v := by rw [List.length_take]; omega
      have hl2 : (U.drop v).length = u - v := by rw [List.length_drop]; omega
      obtain ⟨V1, hV1⟩ : ∃ V1, U.take v = V1 := ⟨_, rfl⟩
      obtain ⟨V2, hV2⟩ : ∃ V2, U.drop v = V2 := ⟨_, rfl⟩
      rw [hV1, hV2] at hV
      rw [hV1] at hl1
      rw [hV2] at hl2
      have hsw := swapRange_any (g := g) (cap := cap) (n := n) (w0 := w0) (w := wr) (A := A) (U := V1) (M := V2) (V := V) (B := B) (by rw [show A ++ V1 ++ V2 ++ V ++ B = A ++ U ++ V ++ B by rw [← hV]; simp]; exact HS.out) (by omega) fv (by simp only [List.length_append]; omega) hbig
      rw [hl1, hl2, hAl, show a + v + (u - v) = m by omega] at hsw
      have HSW := Lib.hid hsw
      have HVV := Lib.hid hV
      have HL1 := Lib.hid hl1
      have HL2 := Lib.hid hl2
      clear hsw hV hV1 hV2 hl1 hl2 hml hUl hVl hAl hm
      go_wp2_with (go_at_call 66; refine HSW.out.mono ?_; rintro e w5 ⟨rfl, h5⟩)
      go_roundw
      case rel => exact ⟨A ++ V, V2, V1, B, by have := HL2.out; omega, by have := HL1.out; omega, by have := HL2.out; have := HM.out; have := HAl.out; have := HVl.out; rw [List.length_append]; omega, by rw [HL2.out], by rw [HL1.out], by rw [← HT.out, ← HVV.out]; simp, by simpa using h5⟩
      case measure => simp [intOf]; omega
end Go.Proofs.Ytjlghmjngiegaaa
