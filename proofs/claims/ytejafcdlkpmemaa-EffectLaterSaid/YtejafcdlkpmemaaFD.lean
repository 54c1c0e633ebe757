/- The law EffectSmall, walked: the rows in another order. -/
import Derived.Test.YtejafcdlkpmemaaFB
import Derived.Test.YtejafcdlkpmemaaFA
import Derived.Deep.RegionHeld3
namespace Go.Proofs.Ytejafcdlkpmemaa
open Go Go.RowKit Go.Maps Go.Shelf
def sIx (t n i : Nat) : Nat := (i * 7 + t) % n
def sNames (t n j : Nat) : List Stamp := (List.range j).map (fun i => cN (sIx t n i))
def sUndo (L : List Nat) (t n j : Nat) : List Stamp := (List.range j).map (fun i => cU L (sIx t n i))
theorem sNames_succ (t n j : Nat) : sNames t n (j + 1) = sNames t n j ++ [cN (sIx t n j)] := by simp [sNames, List.range_succ]
theorem sUndo_succ (L : List Nat) (t n j : Nat) : sUndo L t n (j + 1) = sUndo L t n j ++ [cU L (sIx t n j)] := by simp [sUndo, List.range_succ]
theorem cNames_get {n i : Nat} (h : i < n) : (cNames n)[i]'(by rw [cNames_len]; exact h) = cN i := by simp [cNames]
theorem cUndo_get {L : List Nat} {n i : Nat} (h : i < n) : (cUndo L n)[i]'(by rw [cUndo_len]; exact h) = cU L i := by simp [cUndo]
def SmRel (L : List Nat) (t n : Nat) (w1 : World) (a b i : Value) (wr : World) : Prop :=
  ∃ k : Nat, k ≤ n ∧ i = .int .i64 k ∧ wr.ownsRow w1.heap.size 24 2 a k ((sNames t n k).flatMap stC) ∧ wr.ownsRow w1.heap.size 24 2 b k ((sUndo L t n k).flatMap stC) ∧ Apart a b ∧ Below w1.heap.size w1 wr
theorem stC_T (s : Stamp) : stC s = [.int .i64 s.T, .int .i64 s.R] := rfl
set_option maxRecDepth 100000 in
set_option maxHeartbeats 8000000 in
theorem effectSmall_walk (L : List Nat) (A : Option Addr) (n c : Nat) (u v : Int) (hu : 0 ≤ u ∧ u ≤ 255) (hv : 0 ≤ v ∧ v ≤ 255) (w : World) (hL : ∀ x ∈ L, x < 256) (hR : Rd w w.heap.size 1 (.slice A n c) n (L.flatMap bC)) :
    Calls Try.prog 8 #[.slice A n c, .int .u8 u, .int .u8 v] w fun e w' => e = .returned (.bool true) ∧ Below w.heap.size w w' := by
  obtain ⟨t, rfl⟩ : ∃ p : Nat, u = (p : Int) := ⟨u.toNat, by omega⟩
  obtain ⟨s, rfl⟩ : ∃ p : Nat, v = (p : Int) := ⟨v.toNat, by omega⟩
  have it : IntKind.i64.wrap (t : Int) = t := IntWalk.i64_in _ (by omega)
  have is : IntKind.i64.wrap (s : Int) = s := IntWalk.i64_in _ (by omega)
  obtain ⟨ti, hi, hz0, hz1, hz2⟩ := info_parts info24
  have HCh := Lib.hid (chosen_any L A n c w.heap.size w hL hR (Nat.le_refl _))
  clear hL hR
  go_enter Try.func8, Try.ntmps8
  go_wp2_with fail
  refine HCh.out.mono ?_
  rintro e w1 ⟨va, vb, rfl, hOa, hOb, _, hb1⟩
  obtain ⟨N, hN⟩ : ∃ N, min L.length 40 = N := ⟨_, rfl⟩
  rw [hN] at hOa hOb
  have hN40 : N ≤ 40 := by omega
  obtain ⟨A1, c1, rfl, hLc, _⟩ := (Rd.of_own hOa).form
  obtain ⟨A2, c2, rfl, hLc', _⟩ := (Rd.of_own hOb).form
  have HRa := Lib.hid (Rd.of_own hOa)
  have HRb := Lib.hid (Rd.of_own hOb)
  have HB1 := Lib.hid hb1
  clear hOa hOb hb1 HCh hN
  go_wp2
  go_loopw [9, 10, 11] (fun a b i wr => SmRel L t N w1 a b i wr) (fun _ _ i _ => N - (intOf i).toNat)
  case atStart => exact ⟨0, Nat.zero_le _, rfl, World.ownsRow_nil _ _ _ _, World.ownsRow_nil _ _ _ _, apart_nil _, Below.refl _ _⟩
  case round =>
    obtain ⟨k, hk, rfl, hO, hO', hA, hb⟩ := hrel
    obtain ⟨A3, c3, rfl, hLc3, hcm3⟩ := (Rd.of_own hO).form
    obtain ⟨A4, c4, rfl, hLc4, hcm4⟩ := (Rd.of_own hO').form
    have HO := Lib.hid hO
    have HO' := Lib.hid hO'
    have HA := Lib.hid hA
    clear hO hO' hA
    obtain ⟨wo, rfl⟩ : ∃ wo : World, wo = wr := ⟨_, rfl⟩
    by_cases hlt : k < N
    · obtain ⟨m, hm⟩ : ∃ m, (k * 7 + t) % N = m := ⟨_, rfl⟩
      have hmN : m < N := by rw [← hm]; exact Nat.mod_lt _ (by omega)
      have md : Int.tmod ((k : Int) * 7 + (t : Int)) (N : Int) = (m : Int) := by rw [Int.tmod_eq_emod_of_nonneg (by omega), ← hm]; rfl
      have j0 : ((N : Int) == 0) = false := by simp; omega
      obtain ⟨g1, og1, rfl, hB1', hc1⟩ := rd_at stC 2 (fun _ => rfl) (by decide) HRa.out (show m < (cNames N).length by rw [cNames_len]; exact hmN)
      obtain ⟨g2, og2, rfl, hB2', hc2⟩ := rd_at stC 2 (fun _ => rfl) (by decide) HRb.out (show m < (cUndo L N).length by rw [cUndo_len]; exact hmN)
      rw [cNames_get hmN] at hc1
      rw [cUndo_get hmN] at hc2
      have hsn := sNames_succ t N k
      have hsu := sUndo_succ L t N k
      rw [show sIx t N k = m from hm] at hsn hsu
      obtain ⟨y, hy⟩ : ∃ y, cN m = y := ⟨_, rfl⟩
      obtain ⟨z, hz⟩ : ∃ z, cU L m = z := ⟨_, rfl⟩
      rw [hy] at hc1 hsn
      rw [hz] at hc2 hsu
      have HSN := Lib.hid hsn
      have HSU := Lib.hid hsu
      have HC := Lib.hid (fun W (hW : Below w1.heap.size w1 W) => (show W.cell? ⟨g1, og1 + m * 2, none⟩ = some (.int .i64 y.T) ∧ W.cell? ⟨g1, og1 + m * 2 + 1, none⟩ = some (.int .i64 y.R) ∧ W.cell? ⟨g2, og2 + m * 2, none⟩ = some (.int .i64 z.T) ∧ W.cell? ⟨g2, og2 + m * 2 + 1, none⟩ = some (.int .i64 z.R) from
        ⟨(hW.cell (p := ⟨g1, og1 + m * 2, none⟩) hB1').trans (hc1 0 _ rfl), (hW.cell (p := ⟨g1, og1 + m * 2 + 1, none⟩) hB1').trans (hc1 1 _ rfl), (hW.cell (p := ⟨g2, og2 + m * 2, none⟩) hB2').trans (hc2 0 _ rfl), (hW.cell (p := ⟨g2, og2 + m * 2 + 1, none⟩) hB2').trans (hc2 1 _ rfl)⟩))
      obtain ⟨e0, e1, e2, e3⟩ := HC.out wo hb
      have i1 : (0 : Int) ≤ (m : Int) := by omega
      have i2 : (m : Int) < (N : Int) := by omega
      clear hc1 hc2 hm hy hz hsn hsu
      go_wp2_with (at_builtin; refine wpList_append_own_at _ rfl _ _ 32 rfl w1.heap.size 24 ti _ 2 16 Try.underlying32 hi hz0 hz1 hz2 rfl (by decide) _ k ((sNames t N k).flatMap stC) rfl (HO.out.alloc _) ⟨wo.heap.size, 0, none⟩ 1 1 [.int .i64 y.T, .int .i64 y.R] rfl rfl ?qc (by simp [Value.oneCell']) ?q2 ?q3 ?q4 ?_)
      case qc => exact cells_new wo [.int .i64 y.T, .int .i64 y.R] 24
      case q2 => unfold maxLen; omega
      case q3 => omega
      case q4 => have := hb.size; simp; omega
      intro v1 W4 hown hgrow _ hat
      have hA1 : Apart v1 (.slice A4 k c4) := HA.out.new HO'.out hat (Nat.le_succ _)
      have hO4 := (HO'.out.alloc (.cells #[.int .i64 y.T, .int .i64 y.R] 24)).kept hgrow HA.out.kept
      have hb4 : Below w1.heap.size w1 W4 := (hb.alloc hb.size _).grown hgrow (by have := hb.size; simp; omega) (fun j hj => (HO.out.lt j hj).1)
      have hn4 : W4.ownsRow w1.heap.size 24 2 v1 (k + 1) ((sNames t N (k + 1)).flatMap stC) := by rw [HSN.out, List.flatMap_append, List.flatMap_singleton, stC_T]; exact hown
      obtain ⟨g4, cap4, R4, rfl, _⟩ := own_parts hn4 (Nat.succ_pos _)
      have HN4 := Lib.hid hn4
      have HO4 := Lib.hid hO4
      have HA1 := Lib.hid hA1
      clear hown hgrow hat hO4 hn4 hA1 e0 e1 e2 e3
      obtain ⟨e0, e1, e2, e3⟩ := HC.out W4 hb4
      go_wp2_with (at_builtin; refine wpList_append_own_at _ rfl _ _ 32 rfl w1.heap.size 24 ti _ 2 16 Try.underlying32 hi hz0 hz1 hz2 rfl (by decide) _ k ((sUndo L t N k).flatMap stC) rfl (HO4.out.alloc _) ⟨W4.heap.size, 0, none⟩ 1 1 [.int .i64 z.T, .int .i64 z.R] rfl rfl ?qc (by simp [Value.oneCell']) ?q2 ?q3 ?q4 ?_)
      case qc => exact cells_new W4 [.int .i64 z.T, .int .i64 z.R] 24
      case q2 => unfold maxLen; omega
      case q3 => omega
      case q4 => have := hb4.size; simp; omega
      intro v2 W5 hown2 hgrow2 _ hat2
      have hA2 := HA1.out.symm.new (HN4.out) hat2 (Nat.le_succ _)
      have hN5 := Lib.hid ((HN4.out.alloc (.cells #[.int .i64 z.T, .int .i64 z.R] 24)).kept hgrow2 HA1.out.symm.kept)
      have hU5 : W5.ownsRow w1.heap.size 24 2 v2 (k + 1) ((sUndo L t N (k + 1)).flatMap stC) := by rw [HSU.out, List.flatMap_append, List.flatMap_singleton, stC_T]; exact hown2
      have HU5 := Lib.hid hU5
      have HA2 := Lib.hid hA2
      have hb5 : Below w1.heap.size w1 W5 := (hb4.alloc hb4.size _).grown hgrow2 (by have := hb4.size; simp; omega) (fun j hj => (HO4.out.lt j hj).1)
      clear hown2 hgrow2 hat2 hU5 hA2 e0 e1 e2 e3
      go_wp2
      go_roundw
      case rel => exact ⟨k + 1, by omega, by go_num, hN5.out, HU5.out, HA2.out.symm, hb5⟩
      case measure => simp [intOf]; omega
    · obtain rfl : k = N := by omega
      have HR1 := Lib.hid (Rd.of_own HO.out)
      have HR2 := Lib.hid (Rd.of_own HO'.out)
      obtain ⟨P, hP⟩ : ∃ P, sNames t k k = P := ⟨_, rfl⟩
      obtain ⟨Q, hQ⟩ : ∃ Q, sUndo L t k k = Q := ⟨_, rfl⟩
      have hPl : P.length = k := by rw [← hP]; simp [sNames]
      have hQl : Q.length = k := by rw [← hQ]; simp [sUndo]
      rw [hP] at HR1
      rw [hQ] at HR2
      have HPl := Lib.hid hPl
      have HQl := Lib.hid hQl
      clear HO HO' HA hP hQ hPl hQl
      by_cases hk0 : 0 < k
      · obtain ⟨m, hm⟩ : ∃ m, s % k = m := ⟨_, rfl⟩
        have hmN : m < k := by rw [← hm]; exact Nat.mod_lt _ hk0
        have md : Int.tmod (s : Int) (k : Int) = (m : Int) := by rw [Int.tmod_eq_emod_of_nonneg (by omega), ← hm]; rfl
        have j0 : ((k : Int) == 0) = false := by simp; omega
        obtain ⟨g1, og1, rfl, hB1', hc1⟩ := rd_at stC 2 (fun _ => rfl) (by decide) HRa.out (show m < (cNames k).length by rw [cNames_len]; exact hmN)
        rw [cNames_get hmN] at hc1
        obtain ⟨y, hy⟩ : ∃ y, cN m = y := ⟨_, rfl⟩
        rw [hy] at hc1
        have e0 : wo.cell? ⟨g1, og1 + m * 2, none⟩ = some (.int .i64 y.T) := (hb.cell (p := ⟨g1, og1 + m * 2, none⟩) hB1').trans (hc1 0 _ rfl)
        have e1 : wo.cell? ⟨g1, og1 + m * 2 + 1, none⟩ = some (.int .i64 y.R) := (hb.cell (p := ⟨g1, og1 + m * 2 + 1, none⟩) hB1').trans (hc1 1 _ rfl)
        have hgl : g1 < wo.heap.size := Nat.lt_of_lt_of_le hB1' hb.size
        have i1 : (0 : Int) ≤ (m : Int) := by omega
        have i2 : (m : Int) < (k : Int) := by omega
        clear hc1 hm hy
        go_wp2_with fail
        obtain ⟨w2, hw2⟩ : ∃ W, wo.alloc (.cells #[.int .i64 y.T, .int .i64 y.R] 24) = W := ⟨_, rfl⟩
        have hh2 : w2.heap[wo.heap.size]? = some (.cells #[.int .i64 y.T, .int .i64 y.R] 24 (0, 0)) := by rw [← hw2]; exact heap_alloc_new wo _
        have hg2 : Grows wo w2 := by rw [← hw2]; exact (Grows.refl wo).alloc _
        obtain ⟨bx, hbx⟩ : ∃ b, wo.heap.size = b := ⟨_, rfl⟩
        rw [hw2, hbx]
        rw [hbx] at hh2
        have hlx := (Array.getElem?_eq_some_iff.1 hh2).1
        have HX := Lib.hid (fun W (hW : Below w2.heap.size w2 W) => (show W.cell? ⟨bx, 0, none⟩ = some (.int .i64 y.T) ∧ W.cell? ⟨bx, 1, none⟩ = some (.int .i64 y.R) from
          ⟨(hW.cell (p := ⟨bx, 0, none⟩) hlx).trans (cell_of_row _ _ 0 _ _ _ hh2), (hW.cell (p := ⟨bx, 1, none⟩) hlx).trans (cell_of_row _ _ 1 _ _ _ hh2)⟩))
        have HP := Lib.hid (fun W (hW : Below w2.heap.size w2 W) => (HR1.out.below' hg2.below (Nat.le_refl _)).below' hW hg2.below.size)
        have HQ := Lib.hid (fun W (hW : Below w2.heap.size w2 W) => (HR2.out.below' hg2.below (Nat.le_refl _)).below' hW hg2.below.size)
        have hbw := HB1.out.trans (hb.mono HB1.out.size)
        have HBW := Lib.hid (hbw.trans (hg2.below.mono hbw.size))
        have hszx := hg2.below.size
        clear hw2 hh2 hg2 hbw hb hlx
        refine (root_any P Q y A3 A4 k c3 k c4 wo.heap.size w2 (HP.out _ (Below.refl _ _)) (HQ.out _ (Below.refl _ _)) hszx (by omega)).mono ?_
        rintro e w3 ⟨he, k3⟩
        obtain ⟨r, hr⟩ : ∃ r, rootR (rootGo (zipH P Q) zeroS (min P.length Q.length + 1) y true) = r := ⟨_, rfl⟩
        rw [hr] at he
        obtain ⟨z, ev, er⟩ := r
        unfold stV at he
        dsimp only at he
        subst he
        have HRr := Lib.hid hr
        clear hr
        go_wp2
        obtain ⟨w4, hw4⟩ : ∃ W, w3.alloc (.cells #[.int .i64 z.T, .int .i64 z.R] 24) = W := ⟨_, rfl⟩
        have hh4 : w4.heap[w3.heap.size]? = some (.cells #[.int .i64 z.T, .int .i64 z.R] 24 (0, 0)) := by rw [← hw4]; exact heap_alloc_new w3 _
        have hg4 : Grows w3 w4 := by rw [← hw4]; exact (Grows.refl w3).alloc _
        have k4 := k3.trans (hg4.below.mono k3.size)
        obtain ⟨bz, hbz⟩ : ∃ b, w3.heap.size = b := ⟨_, rfl⟩
        rw [hw4, hbz]
        rw [hbz] at hh4
        have hlz := (Array.getElem?_eq_some_iff.1 hh4).1
        have HZ := Lib.hid (fun W (hW : Below w4.heap.size w4 W) => (show W.cell? ⟨bz, 0, none⟩ = some (.int .i64 z.T) ∧ W.cell? ⟨bz, 1, none⟩ = some (.int .i64 z.R) from
          ⟨(hW.cell (p := ⟨bz, 0, none⟩) hlz).trans (cell_of_row _ _ 0 _ _ _ hh4), (hW.cell (p := ⟨bz, 1, none⟩) hlz).trans (cell_of_row _ _ 1 _ _ _ hh4)⟩))
        have HK4 := Lib.hid k4
        clear hw4 hh4 hg4 k3 k4 hbz hlz
        have kd : Below w4.heap.size w4 w4.drew := (Below.refl _ w4).drew
        have HX4 := Lib.hid (fun W (hW : Below w4.heap.size w4.drew W) => HX.out W (HK4.out.trans ((kd.trans hW).mono HK4.out.size)))
        have HPz := Lib.hid (fun W (hW : Below w4.heap.size w4.drew W) => zip_any P Q A3 A4 k c3 k c4 wo.heap.size W (HP.out _ (HK4.out.trans ((kd.trans hW).mono HK4.out.size))) (HQ.out _ (HK4.out.trans ((kd.trans hW).mono HK4.out.size))) (Nat.le_trans hszx (Nat.le_trans HK4.out.size (Nat.le_trans kd.size hW.size))) (by omega))
        have HRt := Lib.hid (fun Aq cq Wq W (hq : Rd W Wq 4 (.slice Aq (zipH P Q).length cq) (zipH P Q).length ((zipH P Q).flatMap hdC)) (hl : Wq ≤ W.heap.size) => (show Calls Try.prog 31 #[.slice Aq (zipH P Q).length cq, .agg #[.int .i64 y.T, .int .i64 y.R]] W (RootPost (zipH P Q) ((zipH P Q).length + 1) y W) from rroot_any (zipH P Q) y Aq _ cq Wq W hq hl (by rw [zipH_len]; have := HPl.out; omega)))
        have HLen := Lib.hid (show (zipH P Q).length + 1 = min P.length Q.length + 1 by rw [zipH_len])
        have k1 : Below w4.heap.size w4.drew w4.drew := Below.refl _ _
        have k1a : Below w4.heap.size w4.drew (w4.alloc (.cells #[.int .i64 0, .int .i64 0] 24)).drew := k1.alloc (Nat.le_refl _) (.cells #[.int .i64 0, .int .i64 0] 24)
        have HPz1 := Lib.hid (HPz.out (w4.alloc (.cells #[.int .i64 0, .int .i64 0] 24)).drew k1a)
        have HNB := Lib.hid (show (w4.alloc (.cells #[.int .i64 0, .int .i64 0] 24)).drew.heap[w4.heap.size]? = some (.cells #[.int .i64 0, .int .i64 0] 24 (0, 0)) from heap_alloc_new w4 _)
        go_region_held3 (fun W => W.cell? ⟨bx, 0, none⟩ = some (.int .i64 y.T) ∧ W.cell? ⟨bx, 1, none⟩ = some (.int .i64 y.R))
          (first | exact HX4.out _ (by assumption) | exact HX4.out _ (k6.alloc k6.size _) | exact HX4.out _ (k5.alloc k5.size _) | exact HX4.out _ (k1.alloc k1.size _) | exact HX4.out _ ((k6.setCell (p := ⟨w5.heap.size, 0, none⟩) k5.size _).setCell (p := ⟨w5.heap.size, 1, none⟩) k5.size _) | exact HX4.out _ ((k6.setCell (p := ⟨w4.heap.size, 0, none⟩) k1.size _).setCell (p := ⟨w4.heap.size, 1, none⟩) k1.size _) | go_keep)
          (first
            | (go_at_call 29; (with_reducible refine (HPz.out _ k1).mono ?_); intro e w5 hzz; have hzz : ZipPost P Q _ e w5 := hzz; obtain ⟨v5, rfl, hO5, hb5⟩ := hzz; have k5 := k1.trans (hb5.mono k1.size); obtain ⟨A5, c5, rfl, _, _⟩ := (Rd.of_own hO5).form; have O5 := Lib.hid (fun W (hW : Below w5.heap.size w5 W) => (Rd.of_own hO5).below' hW (Nat.le_refl _)); clear hO5 hb5)
            | (go_at_call 29; (with_reducible refine HPz1.out.mono ?_); intro e w5 hzz; have hzz : ZipPost P Q _ e w5 := hzz; obtain ⟨v5, rfl, hO5, hb5⟩ := hzz; have k5 := k1a.trans (hb5.mono k1a.size); have nb := (hb5.block w4.heap.size (Array.getElem?_eq_some_iff.1 HNB.out).1).trans HNB.out; obtain ⟨A5, c5, rfl, _, _⟩ := (Rd.of_own hO5).form; have O5 := Lib.hid (fun W (hW : Below w5.heap.size w5 W) => (Rd.of_own hO5).below' hW (Nat.le_refl _)); clear hO5 hb5)
            | (go_at_call 31; have HRx := HRt.out A5 c5 w5.heap.size w5 (O5.out _ (Below.refl _ _)) (Nat.le_refl _); (with_reducible refine HRx.mono ?_); clear HRx; intro e w6 hzz; have hzz : RootPost (zipH P Q) _ _ _ e w6 := hzz; obtain ⟨he, hb6⟩ := hzz; rw [HLen.out, HRr.out] at he; unfold stV at he; dsimp only at he; subst he; have k6 := k5.trans (hb6.mono k5.size); (try (have nb6 := (hb6.block _ (Array.getElem?_eq_some_iff.1 nb).1).trans nb; have n0 := cell_of_row _ _ 0 _ _ _ nb6; have n1 := cell_of_row _ _ 1 _ _ _ nb6; have nf : ∀ i, w6.frozen? ⟨w4.heap.size, i, none⟩ = false := fun i => by simp only [World.frozen?, nb6]; rfl)); clear hb6)
            | (go_at_call 31; have HRx := HRt.out A5 c5 w5.heap.size (w5.alloc (.cells #[.int .i64 0, .int .i64 0] 24)) (O5.out _ ((Below.refl _ _).alloc (Nat.le_refl _) _)) (by simp); (with_reducible refine HRx.mono ?_); clear HRx; intro e w6 hzz; have hzz : RootPost (zipH P Q) _ _ _ e w6 := hzz; obtain ⟨he, hb6⟩ := hzz; rw [HLen.out, HRr.out] at he; unfold stV at he; dsimp only at he; subst he; have k6' := k5.alloc k5.size (.cells #[.int .i64 0, .int .i64 0] 24); have k6 := k6'.trans (hb6.mono k6'.size); have nb6 := (hb6.block w5.heap.size (by simp)).trans (heap_alloc_new w5 (.cells #[.int .i64 0, .int .i64 0] 24)); have n0 := cell_of_row _ _ 0 _ _ _ nb6; have n1 := cell_of_row _ _ 1 _ _ _ nb6; have nf : ∀ i, w6.frozen? ⟨w5.heap.size, i, none⟩ = false := fun i => by simp only [World.frozen?, nb6]; rfl))
        · obtain ⟨w7, hw7⟩ : ∃ W, w6.alloc (.cells #[.int .i64 z.T, .int .i64 z.R] 24) = W := ⟨_, rfl⟩
          have hh7 : w7.heap[w6.heap.size]? = some (.cells #[.int .i64 z.T, .int .i64 z.R] 24 (0, 0)) := by rw [← hw7]; exact heap_alloc_new w6 _
          have k7 : Below w4.heap.size w4.drew w7 := by rw [← hw7]; exact k6.alloc k6.size _
          obtain ⟨b17, hb17⟩ : ∃ b, w6.heap.size = b := ⟨_, rfl⟩
          rw [hw7, hb17]
          rw [hb17] at hh7
          have HC7 := Lib.hid k7
          have hl7 := (Array.getElem?_eq_some_iff.1 hh7).1
          have HY := Lib.hid (fun W (hW : Below w7.heap.size w7 W) => (show W.cell? ⟨bz, 0, none⟩ = some (.int .i64 z.T) ∧ W.cell? ⟨bz, 1, none⟩ = some (.int .i64 z.R) ∧ W.cell? ⟨b17, 0, none⟩ = some (.int .i64 z.T) ∧ W.cell? ⟨b17, 1, none⟩ = some (.int .i64 z.R) from by
            have h := HZ.out W ((kd.trans k7).trans (hW.mono (kd.trans k7).size))
            exact ⟨h.1, h.2, (hW.cell (p := ⟨b17, 0, none⟩) hl7).trans (cell_of_row _ _ 0 _ _ _ hh7), (hW.cell (p := ⟨b17, 1, none⟩) hl7).trans (cell_of_row _ _ 1 _ _ _ hh7)⟩))
          have HON := Lib.hid (fun W (hW : Below w7.heap.size w7 W) => on_any P Q A3 A4 k c3 k c4 wo.heap.size W (HP.out _ (HK4.out.trans ((kd.trans (k7.trans (hW.mono k7.size))).mono HK4.out.size))) (HQ.out _ (HK4.out.trans ((kd.trans (k7.trans (hW.mono k7.size))).mono HK4.out.size))) (Nat.le_trans hszx (Nat.le_trans HK4.out.size (Nat.le_trans kd.size (Nat.le_trans k7.size hW.size)))) (by omega))
          have HZ7 := Lib.hid (fun W (hW : Below w7.heap.size w7 W) => HPz.out W (k7.trans (hW.mono k7.size)))
          have HF7 := Lib.hid (fun W (hW : Below w7.heap.size w7 W) => HBW.out.trans ((HK4.out.trans ((kd.trans (k7.trans (hW.mono k7.size))).mono HK4.out.size)).mono HBW.out.size))
          clear hw7 hb17 hl7 hh7 HX HX4 HZ HPz HRt HPz1 HNB k1 k1a k7 kd O5 k5 k6
          go_wp2_with fail
          refine (eawake_any w7).mono ?_
          rintro e w8 ⟨rfl, k8⟩
          go_wp2_with fail
          refine (HON.out w8 k8).mono ?_
          rintro e w9 ⟨v9, L9, rfl, hO9, hL9, _, hb9⟩
          obtain ⟨A9, c9, rfl, _, _⟩ := (Rd.of_own hO9).form
          have HO9 := Lib.hid hO9
          have HL9 := Lib.hid hL9
          have k9 := k8.trans (hb9.mono k8.size)
          clear hO9 hL9 hb9
          go_wp2_with fail
          refine (HZ7.out w9 k9).mono ?_
          rintro e w10 ⟨v10, rfl, hO10, hb10⟩
          obtain ⟨A10, c10, rfl, _, _⟩ := (Rd.of_own hO10).form
          have HO10 := Lib.hid hO10
          have HB10 := Lib.hid hb10
          have k10 := k9.trans (hb10.mono k9.size)
          clear hO10 hb10
          go_wp2_with fail
          refine (ron_any (zipH P Q) A10 _ c10 w10.heap.size w10 (Rd.of_own HO10.out) (Nat.le_refl _) (by rw [zipH_len]; have := HPl.out; omega)).mono ?_
          rintro e w11 ⟨v11, L11, rfl, hO11, hL11, _, hb11⟩
          obtain ⟨A11, c11, rfl, _, _⟩ := (Rd.of_own hO11).form
          have k11 := k10.trans (hb11.mono k10.size)
          have hb911 := HB10.out.trans (hb11.mono HB10.out.size)
          have hsa := sameSt_any L9 L11 A9 A11 _ c9 _ c11 w11.heap.size w11 (((Rd.of_own HO9.out).below' hb911 (Nat.le_refl _)).more hb911.size) (Rd.of_own hO11)
          rw [decide_eq_true (HL9.out.same hL11)] at hsa
          have HSA := Lib.hid hsa
          clear hO11 hL11 hsa hb11 hb911
          go_wp2_with fail
          refine HSA.out.mono ?_
          rintro e w12 ⟨rfl, hg12⟩
          have k12 := k11.trans (hg12.below.mono k11.size)
          obtain ⟨y0, y1, y2, y3⟩ := HY.out w12 k12
          have HF := Lib.hid (HF7.out w12 k12)
          have hq := eql24
          have hgd := gd24
          have hE := eq2_iff z z
          rw [decide_eq_true rfl] at hE
          clear hg12 k8 k9 k10 k11 k12 HSA
          go_wp2
          go_ret
          exact ⟨rfl, HF.out⟩
        · obtain ⟨w7, hw7⟩ : ∃ W, (w6.setCell ⟨w5.heap.size, 0, none⟩ (.int .i64 z.T)).setCell ⟨w5.heap.size, 1, none⟩ (.int .i64 z.R) = W := ⟨_, rfl⟩
          have hh7 : w7.heap[w5.heap.size]? = some (.cells #[.int .i64 z.T, .int .i64 z.R] 24 (0, 0)) := by rw [← hw7]; exact set2_heap nb6
          have k7 : Below w4.heap.size w4.drew w7 := by rw [← hw7]; exact (k6.setCell (p := ⟨w5.heap.size, 0, none⟩) k5.size _).setCell (p := ⟨w5.heap.size, 1, none⟩) k5.size _
          obtain ⟨b17, hb17⟩ : ∃ b, w5.heap.size = b := ⟨_, rfl⟩
          clear n0 n1 nf nb6 k6'
          rw [hw7, hb17]
          rw [hb17] at hh7
          have HC7 := Lib.hid k7
          have hl7 := (Array.getElem?_eq_some_iff.1 hh7).1
          have HY := Lib.hid (fun W (hW : Below w7.heap.size w7 W) => (show W.cell? ⟨bz, 0, none⟩ = some (.int .i64 z.T) ∧ W.cell? ⟨bz, 1, none⟩ = some (.int .i64 z.R) ∧ W.cell? ⟨b17, 0, none⟩ = some (.int .i64 z.T) ∧ W.cell? ⟨b17, 1, none⟩ = some (.int .i64 z.R) from by
            have h := HZ.out W ((kd.trans k7).trans (hW.mono (kd.trans k7).size))
            exact ⟨h.1, h.2, (hW.cell (p := ⟨b17, 0, none⟩) hl7).trans (cell_of_row _ _ 0 _ _ _ hh7), (hW.cell (p := ⟨b17, 1, none⟩) hl7).trans (cell_of_row _ _ 1 _ _ _ hh7)⟩))
          have HON := Lib.hid (fun W (hW : Below w7.heap.size w7 W) => on_any P Q A3 A4 k c3 k c4 wo.heap.size W (HP.out _ (HK4.out.trans ((kd.trans (k7.trans (hW.mono k7.size))).mono HK4.out.size))) (HQ.out _ (HK4.out.trans ((kd.trans (k7.trans (hW.mono k7.size))).mono HK4.out.size))) (Nat.le_trans hszx (Nat.le_trans HK4.out.size (Nat.le_trans kd.size (Nat.le_trans k7.size hW.size)))) (by omega))
          have HZ7 := Lib.hid (fun W (hW : Below w7.heap.size w7 W) => HPz.out W (k7.trans (hW.mono k7.size)))
          have HF7 := Lib.hid (fun W (hW : Below w7.heap.size w7 W) => HBW.out.trans ((HK4.out.trans ((kd.trans (k7.trans (hW.mono k7.size))).mono HK4.out.size)).mono HBW.out.size))
          clear hw7 hb17 hl7 hh7 HX HX4 HZ HPz HRt HPz1 HNB k1 k1a k7 kd O5 k5 k6
          go_wp2_with fail
          refine (eawake_any w7).mono ?_
          rintro e w8 ⟨rfl, k8⟩
          go_wp2_with fail
          refine (HON.out w8 k8).mono ?_
          rintro e w9 ⟨v9, L9, rfl, hO9, hL9, _, hb9⟩
          obtain ⟨A9, c9, rfl, _, _⟩ := (Rd.of_own hO9).form
          have HO9 := Lib.hid hO9
          have HL9 := Lib.hid hL9
          have k9 := k8.trans (hb9.mono k8.size)
          clear hO9 hL9 hb9
          go_wp2_with fail
          refine (HZ7.out w9 k9).mono ?_
          rintro e w10 ⟨v10, rfl, hO10, hb10⟩
          obtain ⟨A10, c10, rfl, _, _⟩ := (Rd.of_own hO10).form
          have HO10 := Lib.hid hO10
          have HB10 := Lib.hid hb10
          have k10 := k9.trans (hb10.mono k9.size)
          clear hO10 hb10
          go_wp2_with fail
          refine (ron_any (zipH P Q) A10 _ c10 w10.heap.size w10 (Rd.of_own HO10.out) (Nat.le_refl _) (by rw [zipH_len]; have := HPl.out; omega)).mono ?_
          rintro e w11 ⟨v11, L11, rfl, hO11, hL11, _, hb11⟩
          obtain ⟨A11, c11, rfl, _, _⟩ := (Rd.of_own hO11).form
          have k11 := k10.trans (hb11.mono k10.size)
          have hb911 := HB10.out.trans (hb11.mono HB10.out.size)
          have hsa := sameSt_any L9 L11 A9 A11 _ c9 _ c11 w11.heap.size w11 (((Rd.of_own HO9.out).below' hb911 (Nat.le_refl _)).more hb911.size) (Rd.of_own hO11)
          rw [decide_eq_true (HL9.out.same hL11)] at hsa
          have HSA := Lib.hid hsa
          clear hO11 hL11 hsa hb11 hb911
          go_wp2_with fail
          refine HSA.out.mono ?_
          rintro e w12 ⟨rfl, hg12⟩
          have k12 := k11.trans (hg12.below.mono k11.size)
          obtain ⟨y0, y1, y2, y3⟩ := HY.out w12 k12
          have HF := Lib.hid (HF7.out w12 k12)
          have hq := eql24
          have hgd := gd24
          have hE := eq2_iff z z
          rw [decide_eq_true rfl] at hE
          clear hg12 k8 k9 k10 k11 k12 HSA
          go_wp2
          go_ret
          exact ⟨rfl, HF.out⟩
        · obtain ⟨w7, hw7⟩ : ∃ W, (w6.setCell ⟨w4.heap.size, 0, none⟩ (.int .i64 z.T)).setCell ⟨w4.heap.size, 1, none⟩ (.int .i64 z.R) = W := ⟨_, rfl⟩
          have hh7 : w7.heap[w4.heap.size]? = some (.cells #[.int .i64 z.T, .int .i64 z.R] 24 (0, 0)) := by rw [← hw7]; exact set2_heap nb6
          have k7 : Below w4.heap.size w4.drew w7 := by rw [← hw7]; exact (k6.setCell (p := ⟨w4.heap.size, 0, none⟩) (Nat.le_refl w4.heap.size) _).setCell (p := ⟨w4.heap.size, 1, none⟩) (Nat.le_refl w4.heap.size) _
          obtain ⟨b17, hb17⟩ : ∃ b, w4.heap.size = b := ⟨_, rfl⟩
          clear n0 n1 nf nb6 nb
          rw [hw7, hb17]
          rw [hb17] at hh7
          have HC7 := Lib.hid k7
          have hl7 := (Array.getElem?_eq_some_iff.1 hh7).1
          have HY := Lib.hid (fun W (hW : Below w7.heap.size w7 W) => (show W.cell? ⟨bz, 0, none⟩ = some (.int .i64 z.T) ∧ W.cell? ⟨bz, 1, none⟩ = some (.int .i64 z.R) ∧ W.cell? ⟨b17, 0, none⟩ = some (.int .i64 z.T) ∧ W.cell? ⟨b17, 1, none⟩ = some (.int .i64 z.R) from by
            have h := HZ.out W ((kd.trans k7).trans (hW.mono (kd.trans k7).size))
            exact ⟨h.1, h.2, (hW.cell (p := ⟨b17, 0, none⟩) hl7).trans (cell_of_row _ _ 0 _ _ _ hh7), (hW.cell (p := ⟨b17, 1, none⟩) hl7).trans (cell_of_row _ _ 1 _ _ _ hh7)⟩))
          have HON := Lib.hid (fun W (hW : Below w7.heap.size w7 W) => on_any P Q A3 A4 k c3 k c4 wo.heap.size W (HP.out _ (HK4.out.trans ((kd.trans (k7.trans (hW.mono k7.size))).mono HK4.out.size))) (HQ.out _ (HK4.out.trans ((kd.trans (k7.trans (hW.mono k7.size))).mono HK4.out.size))) (Nat.le_trans hszx (Nat.le_trans HK4.out.size (Nat.le_trans kd.size (Nat.le_trans k7.size hW.size)))) (by omega))
          have HZ7 := Lib.hid (fun W (hW : Below w7.heap.size w7 W) => HPz.out W (k7.trans (hW.mono k7.size)))
          have HF7 := Lib.hid (fun W (hW : Below w7.heap.size w7 W) => HBW.out.trans ((HK4.out.trans ((kd.trans (k7.trans (hW.mono k7.size))).mono HK4.out.size)).mono HBW.out.size))
          clear hw7 hb17 hl7 hh7 HX HX4 HZ HPz HRt HPz1 HNB k1 k1a k7 kd O5 k5 k6
          go_wp2_with fail
          refine (eawake_any w7).mono ?_
          rintro e w8 ⟨rfl, k8⟩
          go_wp2_with fail
          refine (HON.out w8 k8).mono ?_
          rintro e w9 ⟨v9, L9, rfl, hO9, hL9, _, hb9⟩
          obtain ⟨A9, c9, rfl, _, _⟩ := (Rd.of_own hO9).form
          have HO9 := Lib.hid hO9
          have HL9 := Lib.hid hL9
          have k9 := k8.trans (hb9.mono k8.size)
          clear hO9 hL9 hb9
          go_wp2_with fail
          refine (HZ7.out w9 k9).mono ?_
          rintro e w10 ⟨v10, rfl, hO10, hb10⟩
          obtain ⟨A10, c10, rfl, _, _⟩ := (Rd.of_own hO10).form
          have HO10 := Lib.hid hO10
          have HB10 := Lib.hid hb10
          have k10 := k9.trans (hb10.mono k9.size)
          clear hO10 hb10
          go_wp2_with fail
          refine (ron_any (zipH P Q) A10 _ c10 w10.heap.size w10 (Rd.of_own HO10.out) (Nat.le_refl _) (by rw [zipH_len]; have := HPl.out; omega)).mono ?_
          rintro e w11 ⟨v11, L11, rfl, hO11, hL11, _, hb11⟩
          obtain ⟨A11, c11, rfl, _, _⟩ := (Rd.of_own hO11).form
          have k11 := k10.trans (hb11.mono k10.size)
          have hb911 := HB10.out.trans (hb11.mono HB10.out.size)
          have hsa := sameSt_any L9 L11 A9 A11 _ c9 _ c11 w11.heap.size w11 (((Rd.of_own HO9.out).below' hb911 (Nat.le_refl _)).more hb911.size) (Rd.of_own hO11)
          rw [decide_eq_true (HL9.out.same hL11)] at hsa
          have HSA := Lib.hid hsa
          clear hO11 hL11 hsa hb11 hb911
          go_wp2_with fail
          refine HSA.out.mono ?_
          rintro e w12 ⟨rfl, hg12⟩
          have k12 := k11.trans (hg12.below.mono k11.size)
          obtain ⟨y0, y1, y2, y3⟩ := HY.out w12 k12
          have HF := Lib.hid (HF7.out w12 k12)
          have hq := eql24
          have hgd := gd24
          have hE := eq2_iff z z
          rw [decide_eq_true rfl] at hE
          clear hg12 k8 k9 k10 k11 k12 HSA
          go_wp2
          go_ret
          exact ⟨rfl, HF.out⟩
      · have hk00 : (k : Int) ≤ 0 := by omega
        go_wp2_with fail
        obtain ⟨w2, hw2⟩ : ∃ W, wo.alloc (.cells #[.int .i64 0, .int .i64 0] 24) = W := ⟨_, rfl⟩
        have hh2 : w2.heap[wo.heap.size]? = some (.cells #[.int .i64 0, .int .i64 0] 24 (0, 0)) := by rw [← hw2]; exact heap_alloc_new wo _
        have hg2 : Grows wo w2 := by rw [← hw2]; exact (Grows.refl wo).alloc _
        obtain ⟨bx, hbx⟩ : ∃ b, wo.heap.size = b := ⟨_, rfl⟩
        rw [hw2, hbx]
        rw [hbx] at hh2
        have hlx := (Array.getElem?_eq_some_iff.1 hh2).1
        have HX := Lib.hid (fun W (hW : Below w2.heap.size w2 W) => (show W.cell? ⟨bx, 0, none⟩ = some (.int .i64 0) ∧ W.cell? ⟨bx, 1, none⟩ = some (.int .i64 0) from
          ⟨(hW.cell (p := ⟨bx, 0, none⟩) hlx).trans (cell_of_row _ _ 0 _ _ _ hh2), (hW.cell (p := ⟨bx, 1, none⟩) hlx).trans (cell_of_row _ _ 1 _ _ _ hh2)⟩))
        have HP := Lib.hid (fun W (hW : Below w2.heap.size w2 W) => (HR1.out.below' hg2.below (Nat.le_refl _)).below' hW hg2.below.size)
        have HQ := Lib.hid (fun W (hW : Below w2.heap.size w2 W) => (HR2.out.below' hg2.below (Nat.le_refl _)).below' hW hg2.below.size)
        have hbw := HB1.out.trans (hb.mono HB1.out.size)
        have HBW := Lib.hid (hbw.trans (hg2.below.mono hbw.size))
        have hszx := hg2.below.size
        clear hw2 hh2 hg2 hbw hb hlx
        refine (root_any P Q zeroS A3 A4 k c3 k c4 wo.heap.size w2 (HP.out _ (Below.refl _ _)) (HQ.out _ (Below.refl _ _)) hszx (by omega)).mono ?_
        rintro e w3 ⟨he, k3⟩
        obtain ⟨r, hr⟩ : ∃ r, rootR (rootGo (zipH P Q) zeroS (min P.length Q.length + 1) zeroS true) = r := ⟨_, rfl⟩
        rw [hr] at he
        obtain ⟨z, ev, er⟩ := r
        unfold stV at he
        dsimp only at he
        subst he
        have HRr := Lib.hid hr
        clear hr
        go_wp2
        obtain ⟨w4, hw4⟩ : ∃ W, w3.alloc (.cells #[.int .i64 z.T, .int .i64 z.R] 24) = W := ⟨_, rfl⟩
        have hh4 : w4.heap[w3.heap.size]? = some (.cells #[.int .i64 z.T, .int .i64 z.R] 24 (0, 0)) := by rw [← hw4]; exact heap_alloc_new w3 _
        have hg4 : Grows w3 w4 := by rw [← hw4]; exact (Grows.refl w3).alloc _
        have k4 := k3.trans (hg4.below.mono k3.size)
        obtain ⟨bz, hbz⟩ : ∃ b, w3.heap.size = b := ⟨_, rfl⟩
        rw [hw4, hbz]
        rw [hbz] at hh4
        have hlz := (Array.getElem?_eq_some_iff.1 hh4).1
        have HZ := Lib.hid (fun W (hW : Below w4.heap.size w4 W) => (show W.cell? ⟨bz, 0, none⟩ = some (.int .i64 z.T) ∧ W.cell? ⟨bz, 1, none⟩ = some (.int .i64 z.R) from
          ⟨(hW.cell (p := ⟨bz, 0, none⟩) hlz).trans (cell_of_row _ _ 0 _ _ _ hh4), (hW.cell (p := ⟨bz, 1, none⟩) hlz).trans (cell_of_row _ _ 1 _ _ _ hh4)⟩))
        have HK4 := Lib.hid k4
        clear hw4 hh4 hg4 k3 k4 hbz hlz
        have kd : Below w4.heap.size w4 w4.drew := (Below.refl _ w4).drew
        have HX4 := Lib.hid (fun W (hW : Below w4.heap.size w4.drew W) => HX.out W (HK4.out.trans ((kd.trans hW).mono HK4.out.size)))
        have HPz := Lib.hid (fun W (hW : Below w4.heap.size w4.drew W) => zip_any P Q A3 A4 k c3 k c4 wo.heap.size W (HP.out _ (HK4.out.trans ((kd.trans hW).mono HK4.out.size))) (HQ.out _ (HK4.out.trans ((kd.trans hW).mono HK4.out.size))) (Nat.le_trans hszx (Nat.le_trans HK4.out.size (Nat.le_trans kd.size hW.size))) (by omega))
        have HRt := Lib.hid (fun Aq cq Wq W (hq : Rd W Wq 4 (.slice Aq (zipH P Q).length cq) (zipH P Q).length ((zipH P Q).flatMap hdC)) (hl : Wq ≤ W.heap.size) => (show Calls Try.prog 31 #[.slice Aq (zipH P Q).length cq, .agg #[.int .i64 0, .int .i64 0]] W (RootPost (zipH P Q) ((zipH P Q).length + 1) zeroS W) from rroot_any (zipH P Q) zeroS Aq _ cq Wq W hq hl (by rw [zipH_len]; have := HPl.out; omega)))
        have HLen := Lib.hid (show (zipH P Q).length + 1 = min P.length Q.length + 1 by rw [zipH_len])
        have k1 : Below w4.heap.size w4.drew w4.drew := Below.refl _ _
        have k1a : Below w4.heap.size w4.drew (w4.alloc (.cells #[.int .i64 0, .int .i64 0] 24)).drew := k1.alloc (Nat.le_refl _) (.cells #[.int .i64 0, .int .i64 0] 24)
        have HPz1 := Lib.hid (HPz.out (w4.alloc (.cells #[.int .i64 0, .int .i64 0] 24)).drew k1a)
        have HNB := Lib.hid (show (w4.alloc (.cells #[.int .i64 0, .int .i64 0] 24)).drew.heap[w4.heap.size]? = some (.cells #[.int .i64 0, .int .i64 0] 24 (0, 0)) from heap_alloc_new w4 _)
        go_region_held3 (fun W => W.cell? ⟨bx, 0, none⟩ = some (.int .i64 0) ∧ W.cell? ⟨bx, 1, none⟩ = some (.int .i64 0))
          (first | exact HX4.out _ (by assumption) | exact HX4.out _ (k6.alloc k6.size _) | exact HX4.out _ (k5.alloc k5.size _) | exact HX4.out _ (k1.alloc k1.size _) | exact HX4.out _ ((k6.setCell (p := ⟨w5.heap.size, 0, none⟩) k5.size _).setCell (p := ⟨w5.heap.size, 1, none⟩) k5.size _) | exact HX4.out _ ((k6.setCell (p := ⟨w4.heap.size, 0, none⟩) k1.size _).setCell (p := ⟨w4.heap.size, 1, none⟩) k1.size _) | go_keep)
          (first
            | (go_at_call 29; (with_reducible refine (HPz.out _ k1).mono ?_); intro e w5 hzz; have hzz : ZipPost P Q _ e w5 := hzz; obtain ⟨v5, rfl, hO5, hb5⟩ := hzz; have k5 := k1.trans (hb5.mono k1.size); obtain ⟨A5, c5, rfl, _, _⟩ := (Rd.of_own hO5).form; have O5 := Lib.hid (fun W (hW : Below w5.heap.size w5 W) => (Rd.of_own hO5).below' hW (Nat.le_refl _)); clear hO5 hb5)
            | (go_at_call 29; (with_reducible refine HPz1.out.mono ?_); intro e w5 hzz; have hzz : ZipPost P Q _ e w5 := hzz; obtain ⟨v5, rfl, hO5, hb5⟩ := hzz; have k5 := k1a.trans (hb5.mono k1a.size); have nb := (hb5.block w4.heap.size (Array.getElem?_eq_some_iff.1 HNB.out).1).trans HNB.out; obtain ⟨A5, c5, rfl, _, _⟩ := (Rd.of_own hO5).form; have O5 := Lib.hid (fun W (hW : Below w5.heap.size w5 W) => (Rd.of_own hO5).below' hW (Nat.le_refl _)); clear hO5 hb5)
            | (go_at_call 31; have HRx := HRt.out A5 c5 w5.heap.size w5 (O5.out _ (Below.refl _ _)) (Nat.le_refl _); (with_reducible refine HRx.mono ?_); clear HRx; intro e w6 hzz; have hzz : RootPost (zipH P Q) _ _ _ e w6 := hzz; obtain ⟨he, hb6⟩ := hzz; rw [HLen.out, HRr.out] at he; unfold stV at he; dsimp only at he; subst he; have k6 := k5.trans (hb6.mono k5.size); (try (have nb6 := (hb6.block _ (Array.getElem?_eq_some_iff.1 nb).1).trans nb; have n0 := cell_of_row _ _ 0 _ _ _ nb6; have n1 := cell_of_row _ _ 1 _ _ _ nb6; have nf : ∀ i, w6.frozen? ⟨w4.heap.size, i, none⟩ = false := fun i => by simp only [World.frozen?, nb6]; rfl)); clear hb6)
            | (go_at_call 31; have HRx := HRt.out A5 c5 w5.heap.size (w5.alloc (.cells #[.int .i64 0, .int .i64 0] 24)) (O5.out _ ((Below.refl _ _).alloc (Nat.le_refl _) _)) (by simp); (with_reducible refine HRx.mono ?_); clear HRx; intro e w6 hzz; have hzz : RootPost (zipH P Q) _ _ _ e w6 := hzz; obtain ⟨he, hb6⟩ := hzz; rw [HLen.out, HRr.out] at he; unfold stV at he; dsimp only at he; subst he; have k6' := k5.alloc k5.size (.cells #[.int .i64 0, .int .i64 0] 24); have k6 := k6'.trans (hb6.mono k6'.size); have nb6 := (hb6.block w5.heap.size (by simp)).trans (heap_alloc_new w5 (.cells #[.int .i64 0, .int .i64 0] 24)); have n0 := cell_of_row _ _ 0 _ _ _ nb6; have n1 := cell_of_row _ _ 1 _ _ _ nb6; have nf : ∀ i, w6.frozen? ⟨w5.heap.size, i, none⟩ = false := fun i => by simp only [World.frozen?, nb6]; rfl))
        · obtain ⟨w7, hw7⟩ : ∃ W, w6.alloc (.cells #[.int .i64 z.T, .int .i64 z.R] 24) = W := ⟨_, rfl⟩
          have hh7 : w7.heap[w6.heap.size]? = some (.cells #[.int .i64 z.T, .int .i64 z.R] 24 (0, 0)) := by rw [← hw7]; exact heap_alloc_new w6 _
          have k7 : Below w4.heap.size w4.drew w7 := by rw [← hw7]; exact k6.alloc k6.size _
          obtain ⟨b17, hb17⟩ : ∃ b, w6.heap.size = b := ⟨_, rfl⟩
          rw [hw7, hb17]
          rw [hb17] at hh7
          have HC7 := Lib.hid k7
          have hl7 := (Array.getElem?_eq_some_iff.1 hh7).1
          have HY := Lib.hid (fun W (hW : Below w7.heap.size w7 W) => (show W.cell? ⟨bz, 0, none⟩ = some (.int .i64 z.T) ∧ W.cell? ⟨bz, 1, none⟩ = some (.int .i64 z.R) ∧ W.cell? ⟨b17, 0, none⟩ = some (.int .i64 z.T) ∧ W.cell? ⟨b17, 1, none⟩ = some (.int .i64 z.R) from by
            have h := HZ.out W ((kd.trans k7).trans (hW.mono (kd.trans k7).size))
            exact ⟨h.1, h.2, (hW.cell (p := ⟨b17, 0, none⟩) hl7).trans (cell_of_row _ _ 0 _ _ _ hh7), (hW.cell (p := ⟨b17, 1, none⟩) hl7).trans (cell_of_row _ _ 1 _ _ _ hh7)⟩))
          have HON := Lib.hid (fun W (hW : Below w7.heap.size w7 W) => on_any P Q A3 A4 k c3 k c4 wo.heap.size W (HP.out _ (HK4.out.trans ((kd.trans (k7.trans (hW.mono k7.size))).mono HK4.out.size))) (HQ.out _ (HK4.out.trans ((kd.trans (k7.trans (hW.mono k7.size))).mono HK4.out.size))) (Nat.le_trans hszx (Nat.le_trans HK4.out.size (Nat.le_trans kd.size (Nat.le_trans k7.size hW.size)))) (by omega))
          have HZ7 := Lib.hid (fun W (hW : Below w7.heap.size w7 W) => HPz.out W (k7.trans (hW.mono k7.size)))
          have HF7 := Lib.hid (fun W (hW : Below w7.heap.size w7 W) => HBW.out.trans ((HK4.out.trans ((kd.trans (k7.trans (hW.mono k7.size))).mono HK4.out.size)).mono HBW.out.size))
          clear hw7 hb17 hl7 hh7 HX HX4 HZ HPz HRt HPz1 HNB k1 k1a k7 kd O5 k5 k6
          go_wp2_with fail
          refine (eawake_any w7).mono ?_
          rintro e w8 ⟨rfl, k8⟩
          go_wp2_with fail
          refine (HON.out w8 k8).mono ?_
          rintro e w9 ⟨v9, L9, rfl, hO9, hL9, _, hb9⟩
          obtain ⟨A9, c9, rfl, _, _⟩ := (Rd.of_own hO9).form
          have HO9 := Lib.hid hO9
          have HL9 := Lib.hid hL9
          have k9 := k8.trans (hb9.mono k8.size)
          clear hO9 hL9 hb9
          go_wp2_with fail
          refine (HZ7.out w9 k9).mono ?_
          rintro e w10 ⟨v10, rfl, hO10, hb10⟩
          obtain ⟨A10, c10, rfl, _, _⟩ := (Rd.of_own hO10).form
          have HO10 := Lib.hid hO10
          have HB10 := Lib.hid hb10
          have k10 := k9.trans (hb10.mono k9.size)
          clear hO10 hb10
          go_wp2_with fail
          refine (ron_any (zipH P Q) A10 _ c10 w10.heap.size w10 (Rd.of_own HO10.out) (Nat.le_refl _) (by rw [zipH_len]; have := HPl.out; omega)).mono ?_
          rintro e w11 ⟨v11, L11, rfl, hO11, hL11, _, hb11⟩
          obtain ⟨A11, c11, rfl, _, _⟩ := (Rd.of_own hO11).form
          have k11 := k10.trans (hb11.mono k10.size)
          have hb911 := HB10.out.trans (hb11.mono HB10.out.size)
          have hsa := sameSt_any L9 L11 A9 A11 _ c9 _ c11 w11.heap.size w11 (((Rd.of_own HO9.out).below' hb911 (Nat.le_refl _)).more hb911.size) (Rd.of_own hO11)
          rw [decide_eq_true (HL9.out.same hL11)] at hsa
          have HSA := Lib.hid hsa
          clear hO11 hL11 hsa hb11 hb911
          go_wp2_with fail
          refine HSA.out.mono ?_
          rintro e w12 ⟨rfl, hg12⟩
          have k12 := k11.trans (hg12.below.mono k11.size)
          obtain ⟨y0, y1, y2, y3⟩ := HY.out w12 k12
          have HF := Lib.hid (HF7.out w12 k12)
          have hq := eql24
          have hgd := gd24
          have hE := eq2_iff z z
          rw [decide_eq_true rfl] at hE
          clear hg12 k8 k9 k10 k11 k12 HSA
          go_wp2
          go_ret
          exact ⟨rfl, HF.out⟩
        · obtain ⟨w7, hw7⟩ : ∃ W, (w6.setCell ⟨w5.heap.size, 0, none⟩ (.int .i64 z.T)).setCell ⟨w5.heap.size, 1, none⟩ (.int .i64 z.R) = W := ⟨_, rfl⟩
          have hh7 : w7.heap[w5.heap.size]? = some (.cells #[.int .i64 z.T, .int .i64 z.R] 24 (0, 0)) := by rw [← hw7]; exact set2_heap nb6
          have k7 : Below w4.heap.size w4.drew w7 := by rw [← hw7]; exact (k6.setCell (p := ⟨w5.heap.size, 0, none⟩) k5.size _).setCell (p := ⟨w5.heap.size, 1, none⟩) k5.size _
          obtain ⟨b17, hb17⟩ : ∃ b, w5.heap.size = b := ⟨_, rfl⟩
          clear n0 n1 nf nb6 k6'
          rw [hw7, hb17]
          rw [hb17] at hh7
          have HC7 := Lib.hid k7
          have hl7 := (Array.getElem?_eq_some_iff.1 hh7).1
          have HY := Lib.hid (fun W (hW : Below w7.heap.size w7 W) => (show W.cell? ⟨bz, 0, none⟩ = some (.int .i64 z.T) ∧ W.cell? ⟨bz, 1, none⟩ = some (.int .i64 z.R) ∧ W.cell? ⟨b17, 0, none⟩ = some (.int .i64 z.T) ∧ W.cell? ⟨b17, 1, none⟩ = some (.int .i64 z.R) from by
            have h := HZ.out W ((kd.trans k7).trans (hW.mono (kd.trans k7).size))
            exact ⟨h.1, h.2, (hW.cell (p := ⟨b17, 0, none⟩) hl7).trans (cell_of_row _ _ 0 _ _ _ hh7), (hW.cell (p := ⟨b17, 1, none⟩) hl7).trans (cell_of_row _ _ 1 _ _ _ hh7)⟩))
          have HON := Lib.hid (fun W (hW : Below w7.heap.size w7 W) => on_any P Q A3 A4 k c3 k c4 wo.heap.size W (HP.out _ (HK4.out.trans ((kd.trans (k7.trans (hW.mono k7.size))).mono HK4.out.size))) (HQ.out _ (HK4.out.trans ((kd.trans (k7.trans (hW.mono k7.size))).mono HK4.out.size))) (Nat.le_trans hszx (Nat.le_trans HK4.out.size (Nat.le_trans kd.size (Nat.le_trans k7.size hW.size)))) (by omega))
          have HZ7 := Lib.hid (fun W (hW : Below w7.heap.size w7 W) => HPz.out W (k7.trans (hW.mono k7.size)))
          have HF7 := Lib.hid (fun W (hW : Below w7.heap.size w7 W) => HBW.out.trans ((HK4.out.trans ((kd.trans (k7.trans (hW.mono k7.size))).mono HK4.out.size)).mono HBW.out.size))
          clear hw7 hb17 hl7 hh7 HX HX4 HZ HPz HRt HPz1 HNB k1 k1a k7 kd O5 k5 k6
          go_wp2_with fail
          refine (eawake_any w7).mono ?_
          rintro e w8 ⟨rfl, k8⟩
          go_wp2_with fail
          refine (HON.out w8 k8).mono ?_
          rintro e w9 ⟨v9, L9, rfl, hO9, hL9, _, hb9⟩
          obtain ⟨A9, c9, rfl, _, _⟩ := (Rd.of_own hO9).form
          have HO9 := Lib.hid hO9
          have HL9 := Lib.hid hL9
          have k9 := k8.trans (hb9.mono k8.size)
          clear hO9 hL9 hb9
          go_wp2_with fail
          refine (HZ7.out w9 k9).mono ?_
          rintro e w10 ⟨v10, rfl, hO10, hb10⟩
          obtain ⟨A10, c10, rfl, _, _⟩ := (Rd.of_own hO10).form
          have HO10 := Lib.hid hO10
          have HB10 := Lib.hid hb10
          have k10 := k9.trans (hb10.mono k9.size)
          clear hO10 hb10
          go_wp2_with fail
          refine (ron_any (zipH P Q) A10 _ c10 w10.heap.size w10 (Rd.of_own HO10.out) (Nat.le_refl _) (by rw [zipH_len]; have := HPl.out; omega)).mono ?_
          rintro e w11 ⟨v11, L11, rfl, hO11, hL11, _, hb11⟩
          obtain ⟨A11, c11, rfl, _, _⟩ := (Rd.of_own hO11).form
          have k11 := k10.trans (hb11.mono k10.size)
          have hb911 := HB10.out.trans (hb11.mono HB10.out.size)
          have hsa := sameSt_any L9 L11 A9 A11 _ c9 _ c11 w11.heap.size w11 (((Rd.of_own HO9.out).below' hb911 (Nat.le_refl _)).more hb911.size) (Rd.of_own hO11)
          rw [decide_eq_true (HL9.out.same hL11)] at hsa
          have HSA := Lib.hid hsa
          clear hO11 hL11 hsa hb11 hb911
          go_wp2_with fail
          refine HSA.out.mono ?_
          rintro e w12 ⟨rfl, hg12⟩
          have k12 := k11.trans (hg12.below.mono k11.size)
          obtain ⟨y0, y1, y2, y3⟩ := HY.out w12 k12
          have HF := Lib.hid (HF7.out w12 k12)
          have hq := eql24
          have hgd := gd24
          have hE := eq2_iff z z
          rw [decide_eq_true rfl] at hE
          clear hg12 k8 k9 k10 k11 k12 HSA
          go_wp2
          go_ret
          exact ⟨rfl, HF.out⟩
        · obtain ⟨w7, hw7⟩ : ∃ W, (w6.setCell ⟨w4.heap.size, 0, none⟩ (.int .i64 z.T)).setCell ⟨w4.heap.size, 1, none⟩ (.int .i64 z.R) = W := ⟨_, rfl⟩
          have hh7 : w7.heap[w4.heap.size]? = some (.cells #[.int .i64 z.T, .int .i64 z.R] 24 (0, 0)) := by rw [← hw7]; exact set2_heap nb6
          have k7 : Below w4.heap.size w4.drew w7 := by rw [← hw7]; exact (k6.setCell (p := ⟨w4.heap.size, 0, none⟩) (Nat.le_refl w4.heap.size) _).setCell (p := ⟨w4.heap.size, 1, none⟩) (Nat.le_refl w4.heap.size) _
          obtain ⟨b17, hb17⟩ : ∃ b, w4.heap.size = b := ⟨_, rfl⟩
          clear n0 n1 nf nb6 nb
          rw [hw7, hb17]
          rw [hb17] at hh7
          have HC7 := Lib.hid k7
          have hl7 := (Array.getElem?_eq_some_iff.1 hh7).1
          have HY := Lib.hid (fun W (hW : Below w7.heap.size w7 W) => (show W.cell? ⟨bz, 0, none⟩ = some (.int .i64 z.T) ∧ W.cell? ⟨bz, 1, none⟩ = some (.int .i64 z.R) ∧ W.cell? ⟨b17, 0, none⟩ = some (.int .i64 z.T) ∧ W.cell? ⟨b17, 1, none⟩ = some (.int .i64 z.R) from by
            have h := HZ.out W ((kd.trans k7).trans (hW.mono (kd.trans k7).size))
            exact ⟨h.1, h.2, (hW.cell (p := ⟨b17, 0, none⟩) hl7).trans (cell_of_row _ _ 0 _ _ _ hh7), (hW.cell (p := ⟨b17, 1, none⟩) hl7).trans (cell_of_row _ _ 1 _ _ _ hh7)⟩))
          have HON := Lib.hid (fun W (hW : Below w7.heap.size w7 W) => on_any P Q A3 A4 k c3 k c4 wo.heap.size W (HP.out _ (HK4.out.trans ((kd.trans (k7.trans (hW.mono k7.size))).mono HK4.out.size))) (HQ.out _ (HK4.out.trans ((kd.trans (k7.trans (hW.mono k7.size))).mono HK4.out.size))) (Nat.le_trans hszx (Nat.le_trans HK4.out.size (Nat.le_trans kd.size (Nat.le_trans k7.size hW.size)))) (by omega))
          have HZ7 := Lib.hid (fun W (hW : Below w7.heap.size w7 W) => HPz.out W (k7.trans (hW.mono k7.size)))
          have HF7 := Lib.hid (fun W (hW : Below w7.heap.size w7 W) => HBW.out.trans ((HK4.out.trans ((kd.trans (k7.trans (hW.mono k7.size))).mono HK4.out.size)).mono HBW.out.size))
          clear hw7 hb17 hl7 hh7 HX HX4 HZ HPz HRt HPz1 HNB k1 k1a k7 kd O5 k5 k6
          go_wp2_with fail
          refine (eawake_any w7).mono ?_
          rintro e w8 ⟨rfl, k8⟩
          go_wp2_with fail
          refine (HON.out w8 k8).mono ?_
          rintro e w9 ⟨v9, L9, rfl, hO9, hL9, _, hb9⟩
          obtain ⟨A9, c9, rfl, _, _⟩ := (Rd.of_own hO9).form
          have HO9 := Lib.hid hO9
          have HL9 := Lib.hid hL9
          have k9 := k8.trans (hb9.mono k8.size)
          clear hO9 hL9 hb9
          go_wp2_with fail
          refine (HZ7.out w9 k9).mono ?_
          rintro e w10 ⟨v10, rfl, hO10, hb10⟩
          obtain ⟨A10, c10, rfl, _, _⟩ := (Rd.of_own hO10).form
          have HO10 := Lib.hid hO10
          have HB10 := Lib.hid hb10
          have k10 := k9.trans (hb10.mono k9.size)
          clear hO10 hb10
          go_wp2_with fail
          refine (ron_any (zipH P Q) A10 _ c10 w10.heap.size w10 (Rd.of_own HO10.out) (Nat.le_refl _) (by rw [zipH_len]; have := HPl.out; omega)).mono ?_
          rintro e w11 ⟨v11, L11, rfl, hO11, hL11, _, hb11⟩
          obtain ⟨A11, c11, rfl, _, _⟩ := (Rd.of_own hO11).form
          have k11 := k10.trans (hb11.mono k10.size)
          have hb911 := HB10.out.trans (hb11.mono HB10.out.size)
          have hsa := sameSt_any L9 L11 A9 A11 _ c9 _ c11 w11.heap.size w11 (((Rd.of_own HO9.out).below' hb911 (Nat.le_refl _)).more hb911.size) (Rd.of_own hO11)
          rw [decide_eq_true (HL9.out.same hL11)] at hsa
          have HSA := Lib.hid hsa
          clear hO11 hL11 hsa hb11 hb911
          go_wp2_with fail
          refine HSA.out.mono ?_
          rintro e w12 ⟨rfl, hg12⟩
          have k12 := k11.trans (hg12.below.mono k11.size)
          obtain ⟨y0, y1, y2, y3⟩ := HY.out w12 k12
          have HF := Lib.hid (HF7.out w12 k12)
          have hq := eql24
          have hgd := gd24
          have hE := eq2_iff z z
          rw [decide_eq_true rfl] at hE
          clear hg12 k8 k9 k10 k11 k12 HSA
          go_wp2
          go_ret
          exact ⟨rfl, HF.out⟩
end Go.Proofs.Ytejafcdlkpmemaa
