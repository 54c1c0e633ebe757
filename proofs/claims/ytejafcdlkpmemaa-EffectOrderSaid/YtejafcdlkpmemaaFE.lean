/- The law EffectOrder, walked. -/
import Derived.Test.YtejafcdlkpmemaaFD
import Derived.Test.YtejafcdlkpmemaaEP5
namespace Go.Proofs.Ytejafcdlkpmemaa
open Go Go.RowKit Go.Maps Go.Shelf
def RvRel (L : List Nat) (n : Nat) (w2 : World) (a b i : Value) (wr : World) : Prop :=
  ∃ (k : Nat) (v : Int), k ≤ n ∧ i = .int .i64 v ∧ v = (k : Int) - 1 ∧ wr.ownsRow w2.heap.size 24 2 a (n - k) ((((cNames n).drop k).reverse).flatMap stC) ∧ wr.ownsRow w2.heap.size 24 2 b (n - k) ((((cUndo L n).drop k).reverse).flatMap stC) ∧ Apart a b ∧ Below w2.heap.size w2 wr
theorem drop_rev' {α : Type} {H : List α} {j : Nat} (h : j < H.length) : (H.drop j).reverse = (H.drop (j + 1)).reverse ++ [H[j]] := by
  rw [List.drop_eq_getElem_cons h, List.reverse_cons]
theorem grows_to (W : World) (n : Nat) (os : Array Obj) : Grows W (Sort.grow (W.drewN n) os) := ⟨n, os, rfl⟩
set_option maxRecDepth 100000 in
set_option maxHeartbeats 8000000 in
theorem effectOrder_walk (L : List Nat) (A : Option Addr) (n c : Nat) (w : World) (hL : ∀ x ∈ L, x < 256) (hR : Rd w w.heap.size 1 (.slice A n c) n (L.flatMap bC)) :
    Calls Try.prog 9 #[.slice A n c] w fun e w' => e = .returned (.bool true) ∧ Below w.heap.size w w' := by
  obtain ⟨ti, hi, hz0, hz1, hz2⟩ := info_parts info24
  have HCh := Lib.hid (fun W (hW : Below w.heap.size w W) => chosen_any L A n c w.heap.size W hL (hR.below' hW (Nat.le_refl _)) hW.size)
  clear hL hR
  go_enter Try.func9, Try.ntmps9
  go_wp2_with fail
  refine (eawake_any w).mono ?_
  rintro e w1 ⟨rfl, hb1⟩
  go_wp2_with fail
  refine (HCh.out w1 hb1).mono ?_
  rintro e w2 ⟨va, vb, rfl, hOa, hOb, _, hb2⟩
  obtain ⟨N, hN⟩ : ∃ N, min L.length 40 = N := ⟨_, rfl⟩
  rw [hN] at hOa hOb
  have hN40 : N ≤ 40 := by omega
  obtain ⟨A1, c1, rfl, hLc, _⟩ := (Rd.of_own hOa).form
  obtain ⟨A2, c2, rfl, hLc', _⟩ := (Rd.of_own hOb).form
  have HRa := Lib.hid (Rd.of_own hOa)
  have HRb := Lib.hid (Rd.of_own hOb)
  have HB2 := Lib.hid (hb1.trans (hb2.mono hb1.size))
  clear hOa hOb hb1 hb2 HCh hN
  go_wp2
  go_loopw [6, 7, 8] (fun a b i wr => RvRel L N w2 a b i wr) (fun _ _ i _ => (intOf i + 1).toNat)
  case atStart =>
    refine ⟨N, _, Nat.le_refl _, rfl, by go_num, ?_, ?_, apart_nil _, Below.refl _ _⟩
    · rw [Nat.sub_self, List.drop_of_length_le (by rw [cNames_len]; exact Nat.le_refl _)]; exact World.ownsRow_nil _ _ _ _
    · rw [Nat.sub_self, List.drop_of_length_le (by rw [cUndo_len]; exact Nat.le_refl _)]; exact World.ownsRow_nil _ _ _ _
  case round =>
    obtain ⟨k, v, hk, rfl, hv, hO, hO', hA, hb⟩ := hrel
    obtain ⟨A3, c3, rfl, hLc3, hcm3⟩ := (Rd.of_own hO).form
    obtain ⟨A4, c4, rfl, hLc4, hcm4⟩ := (Rd.of_own hO').form
    have HO := Lib.hid hO
    have HO' := Lib.hid hO'
    have HA := Lib.hid hA
    clear hO hO' hA
    obtain ⟨wo, rfl⟩ : ∃ wo : World, wo = wr := ⟨_, rfl⟩
    rcases k with _ | k
    · have hv0 : v < 0 := by omega
      clear hv
      rw [Nat.sub_zero] at HO HO' HA hLc3 hLc4 ⊢
      have HR1 := Lib.hid (Rd.of_own HO.out)
      have HR2 := Lib.hid (Rd.of_own HO'.out)
      rw [List.drop_zero] at HR1 HR2
      clear HO HO' HA
      go_wp2_with fail
      refine (on_any (cNames N) (cUndo L N) A1 A2 N c1 N c2 w2.heap.size wo (HRa.out.below' hb (Nat.le_refl _)) (HRb.out.below' hb (Nat.le_refl _)) hb.size (by omega)).mono ?_
      rintro e W6 ⟨v6, X, rfl, hO6, hX, hXl, hb6⟩
      obtain ⟨A6, c6, rfl, _, _⟩ := (Rd.of_own hO6).form
      have HO6 := Lib.hid hO6
      have HX := Lib.hid hX
      rw [cNames_len] at hXl
      have hF6 := HB2.out.trans ((hb.trans (hb6.mono hb.size)).mono HB2.out.size)
      have HR1' := Lib.hid (HR1.out.below' hb6 (Nat.le_refl _))
      have HR2' := Lib.hid (HR2.out.below' hb6 (Nat.le_refl _))
      have HRa6 := Lib.hid (fun W (hW : Below W6.heap.size W6 W) => (HRa.out.below' hb (Nat.le_refl _)).below' (hb6.trans (hW.mono hb6.size)) hb.size)
      have HRb6 := Lib.hid (fun W (hW : Below W6.heap.size W6 W) => (HRb.out.below' hb (Nat.le_refl _)).below' (hb6.trans (hW.mono hb6.size)) hb.size)
      have hw6 := hb6.size
      have h26 : w2.heap.size ≤ W6.heap.size := Nat.le_trans hb.size hb6.size
      clear hO6 hX hb6 hb HR1 HR2
      go_wp2_with fail
      refine (on_any (cNames N).reverse (cUndo L N).reverse A3 A4 N c3 N c4 wo.heap.size W6 HR1'.out HR2'.out hw6 (by omega)).mono ?_
      rintro e W7 ⟨v7, Y, rfl, hO7, hY, _, hb7⟩
      obtain rfl := c_on_rev (by omega) HX.out hY
      obtain ⟨A7, c7, rfl, _, _⟩ := (Rd.of_own hO7).form
      have hsa := sameSt_any X X A6 A7 _ c6 _ c7 W7.heap.size W7 (((Rd.of_own HO6.out).below' hb7 (Nat.le_refl _)).more hb7.size) (Rd.of_own hO7)
      rw [decide_eq_true rfl] at hsa
      have HSA := Lib.hid hsa
      clear hO7 hY hsa
      go_wp2_with fail
      refine HSA.out.mono ?_
      rintro e W8 ⟨rfl, hg8⟩
      have k8 := hb7.trans (hg8.below.mono hb7.size)
      have HXr := Lib.hid (fun W (hW : Below W8.heap.size W8 W) => (Rd.of_own HO6.out).below' (k8.trans (hW.mono k8.size)) (Nat.le_refl _))
      have HRa8 := Lib.hid (fun W (hW : Below W8.heap.size W8 W) => HRa6.out W (k8.trans (hW.mono k8.size)))
      have HRb8 := Lib.hid (fun W (hW : Below W8.heap.size W8 W) => HRb6.out W (k8.trans (hW.mono k8.size)))
      have HF8 := Lib.hid (hF6.trans (k8.mono hF6.size))
      have h68 := k8.size
      clear hF6 hb7 hg8 HSA HO6 k8 HRa6 HRb6 HR1' HR2'
      go_wp2
      go_loopw [11] (fun i wr => ∃ j : Nat, 1 ≤ j ∧ j ≤ X.length + 1 ∧ i = .int .i64 j ∧ Below W8.heap.size W8 wr) (fun i _ => X.length + 1 - (intOf i).toNat)
      case atStart => exact ⟨1, Nat.le_refl _, by omega, rfl, Below.refl _ _⟩
      case round =>
        obtain ⟨j, hj1, hj2, rfl, hbr⟩ := hrel
        by_cases hjl : j < X.length
        · obtain ⟨i, rfl⟩ : ∃ i, j = i + 1 := ⟨j - 1, by omega⟩
          have hxr := HXr.out wr hbr
          obtain ⟨g, og, rfl, hBg, hcg⟩ := rd_at stC 2 (fun _ => rfl) (by decide) hxr (show i < X.length by omega)
          obtain ⟨_, _, e', _, hcg2⟩ := rd_at stC 2 (fun _ => rfl) (by decide) hxr hjl
          cases e'
          have hlt := (scmp_neg _ _).2 (List.pairwise_iff_getElem.1 (c_rises (by omega) HX.out) i (i + 1) (by omega) hjl (by omega))
          have HC := Lib.hid (fun w => rcmp_any X[i] X[i + 1] w)
          obtain ⟨y, hy⟩ : ∃ y, X[i] = y := ⟨_, rfl⟩
          obtain ⟨z, hz⟩ : ∃ z, X[i + 1] = z := ⟨_, rfl⟩
          rw [hy] at hcg hlt HC
          rw [hz] at hcg2 hlt HC
          obtain ⟨q, hq⟩ : ∃ q, y.cmp z = q := ⟨_, rfl⟩
          rw [hq] at hlt HC
          unfold stV at HC
          have hgl : g < wr.heap.size := Nat.lt_of_lt_of_le hBg (Nat.le_trans h68 hbr.size)
          have a0 : ∀ n os, (Sort.grow (wr.drewN n) os).cell? ⟨g, og + i * 2, none⟩ = some (.int .i64 y.T) := fun n os => cell_grown hgl (hcg 0 _ rfl) n os
          have a1 : ∀ n os, (Sort.grow (wr.drewN n) os).cell? ⟨g, og + i * 2 + 1, none⟩ = some (.int .i64 y.R) := fun n os => cell_grown hgl (hcg 1 _ rfl) n os
          have b0 : ∀ n os, (Sort.grow (wr.drewN n) os).cell? ⟨g, og + (i + 1) * 2, none⟩ = some (.int .i64 z.T) := fun n os => cell_grown hgl (hcg2 0 _ rfl) n os
          have b1 : ∀ n os, (Sort.grow (wr.drewN n) os).cell? ⟨g, og + (i + 1) * 2 + 1, none⟩ = some (.int .i64 z.R) := fun n os => cell_grown hgl (hcg2 1 _ rfl) n os
          have i1 : (0 : Int) ≤ (i : Int) := by omega
          have i2 : (i : Int) < (X.length : Int) := by omega
          have i3 : (0 : Int) ≤ (i : Int) + 1 := by omega
          have i4 : (i : Int) + 1 < (X.length : Int) := by omega
          have hw : IntKind.i64.wrap (i : Int) = i := IntWalk.i64_in _ (by omega)
          have hcast : ((i + 1 : Nat) : Int) = (i : Int) + 1 := by omega
          rw [hcast]
          clear hcg hcg2 hy hz hq hxr hcast
          go_wp2
          refine region_grown (by kernel_rfl) (by kernel_rfl) ?_
          repeat (quiet_step ((go_at_call 35; exact grown_of_grows (HC.out _))))
          refine wpQuiet_nil ?_
          rintro W ⟨⟨nq, osq⟩, hW⟩
          have hgW : Grows wr W := ⟨nq, osq, hW⟩
          have hbW := hbr.trans (hgW.below.mono hbr.size)
          clear hW hgW hbr a0 a1 b0 b1
          go_wp2
          go_roundw
          case rel => exact ⟨i + 1 + 1, by omega, by omega, by go_num, hbW⟩
          case measure => simp [intOf]; omega
        · have hjn : ¬ (j : Int) < (X.length : Int) := by omega
          have hjn' : (X.length : Int) ≤ (j : Int) := by omega
          clear hjn
          go_wp2
          go_loopw [12] (fun i wr => ∃ j : Nat, j ≤ N ∧ i = .int .i64 j ∧ Below W8.heap.size W8 wr) (fun i _ => N - (intOf i).toNat)
          case atStart => exact ⟨0, Nat.zero_le _, rfl, hbr⟩
          case round =>
            clear hbr
            obtain ⟨i, hiN, rfl, hb3⟩ := hrel
            by_cases hin : i < N
            · have hra := HRa8.out wr hb3
              have hrb := HRb8.out wr hb3
              obtain ⟨g, og, rfl, hBg, hcg⟩ := rd_at stC 2 (fun _ => rfl) (by decide) hra (show i < (cNames N).length by rw [cNames_len]; exact hin)
              rw [cNames_get hin] at hcg
              have hUn := c_undone (L := L) (n := N) (by omega) HX.out hin
              have hHS := hasStamp_any X (cN i) A6 _ c6 W6.heap.size wr (HXr.out wr hb3) (Nat.le_trans h68 hb3.size)
              rw [hUn] at hHS
              obtain ⟨s, hs⟩ : ∃ s, cN i = s := ⟨_, rfl⟩
              rw [hs] at hcg hHS
              have e0 : wr.cell? ⟨g, og + i * 2, none⟩ = some (.int .i64 s.T) := hcg 0 _ rfl
              have e1 : wr.cell? ⟨g, og + i * 2 + 1, none⟩ = some (.int .i64 s.R) := hcg 1 _ rfl
              have hgl : g < wr.heap.size := Nat.lt_of_lt_of_le hBg (Nat.le_trans h26 (Nat.le_trans h68 hb3.size))
              obtain ⟨un, hun⟩ : ∃ un, cUndone L X s N = un := ⟨_, rfl⟩
              rw [hun] at hHS
              have HUN := Lib.hid hun
              have HHS := Lib.hid hHS
              unfold stV at HHS
              have HGs := Lib.hid (show ∀ W, Below wr.heap.size wr W → W.cell? ⟨g, og + i * 2, none⟩ = some (.int .i64 s.T) ∧ W.cell? ⟨g, og + i * 2 + 1, none⟩ = some (.int .i64 s.R) from fun W hW => ⟨(hW.cell (p := ⟨g, og + i * 2, none⟩) hgl).trans e0, (hW.cell (p := ⟨g, og + i * 2 + 1, none⟩) hgl).trans e1⟩)
              have i1 : (0 : Int) ≤ (i : Int) := by omega
              have i2 : (i : Int) < (N : Int) := by omega
              clear hcg hs hun hHS hUn hra
              go_wp2_with fail
              refine HHS.out.mono ?_
              rintro e W9 ⟨rfl, hg9⟩
              have hb9 := hg9.below
              clear e0 e1
              obtain ⟨e0, e1⟩ := HGs.out W9 hb9
              go_wp2
              have hx9 := HXr
              go_loopw [14, 15] (fun und i wr' => ∃ j : Nat, j ≤ N ∧ i = .int .i64 j ∧ und = .bool (cUndone L X s j) ∧ Grows W9 wr') (fun _ i _ => N - (intOf i).toNat)
              case atStart => exact ⟨0, Nat.zero_le _, rfl, rfl, Grows.refl _⟩
              case round =>
                obtain ⟨j, hjN, rfl, rfl, hgr⟩ := hrel
                obtain ⟨W0, rfl⟩ : ∃ W0 : World, W0 = wr := ⟨_, rfl⟩
                have hb4 := hb3.trans ((hg9.trans hgr).below.mono hb3.size)
                by_cases hjn : j < N
                · have hra := HRa8.out _ hb4
                  have hrb := HRb8.out _ hb4
                  obtain ⟨_, _, e', hB1, hc1⟩ := rd_at stC 2 (fun _ => rfl) (by decide) hra (show j < (cNames N).length by rw [cNames_len]; exact hjn)
                  cases e'
                  obtain ⟨g2, og2, rfl, hB2, hc2⟩ := rd_at stC 2 (fun _ => rfl) (by decide) hrb (show j < (cUndo L N).length by rw [cUndo_len]; exact hjn)
                  rw [cNames_get hjn] at hc1
                  rw [cUndo_get hjn] at hc2
                  have hus := cUndone_succ L X s j
                  obtain ⟨y, hy⟩ : ∃ y, cN j = y := ⟨_, rfl⟩
                  obtain ⟨z, hz⟩ : ∃ z, cU L j = z := ⟨_, rfl⟩
                  rw [hy] at hc1 hus
                  rw [hz] at hc2 hus
                  obtain ⟨e2, e3⟩ := HGs.out _ (hg9.trans hgr).below
                  have hgl0 : g < W0.heap.size := Nat.lt_of_lt_of_le hgl (hg9.trans hgr).below.size
                  have hgl2 : g2 < W0.heap.size := Nat.lt_of_lt_of_le hB2 (Nat.le_trans h26 (Nat.le_trans h68 hb4.size))
                  have a0 : ∀ n os, (Sort.grow (W0.drewN n) os).cell? ⟨g2, og2 + j * 2, none⟩ = some (.int .i64 z.T) := fun n os => cell_grown hgl2 (hc2 0 _ rfl) n os
                  have a1 : ∀ n os, (Sort.grow (W0.drewN n) os).cell? ⟨g2, og2 + j * 2 + 1, none⟩ = some (.int .i64 z.R) := fun n os => cell_grown hgl2 (hc2 1 _ rfl) n os
                  have b0 : ∀ n os, (Sort.grow (W0.drewN n) os).cell? ⟨g, og + j * 2, none⟩ = some (.int .i64 y.T) := fun n os => cell_grown hgl0 (hc1 0 _ rfl) n os
                  have b1 : ∀ n os, (Sort.grow (W0.drewN n) os).cell? ⟨g, og + j * 2 + 1, none⟩ = some (.int .i64 y.R) := fun n os => cell_grown hgl0 (hc1 1 _ rfl) n os
                  have s0 : ∀ n os, (Sort.grow (W0.drewN n) os).cell? ⟨g, og + i * 2, none⟩ = some (.int .i64 s.T) := fun n os => cell_grown hgl0 e2 n os
                  have s1 : ∀ n os, (Sort.grow (W0.drewN n) os).cell? ⟨g, og + i * 2 + 1, none⟩ = some (.int .i64 s.R) := fun n os => cell_grown hgl0 e3 n os
                  have f0 : W0.cell? ⟨g2, og2 + j * 2, none⟩ = some (.int .i64 z.T) := hc2 0 _ rfl
                  have f1 : W0.cell? ⟨g2, og2 + j * 2 + 1, none⟩ = some (.int .i64 z.R) := hc2 1 _ rfl
                  have HH := Lib.hid (fun n os => hasStamp_any X y A6 _ c6 W6.heap.size (Sort.grow (W0.drewN n) os) (HXr.out _ (hb4.trans ((grows_to W0 n os).below.mono hb4.size))) (Nat.le_trans h68 (Nat.le_trans hb4.size (grows_to W0 n os).below.size)))
                  unfold stV at HH
                  have hE := eq2_iff z s
                  have hq := eql24
                  have hgd := gd24
                  have j1 : (0 : Int) ≤ (j : Int) := by omega
                  have j2 : (j : Int) < (N : Int) := by omega
                  obtain ⟨mb, hmb⟩ : ∃ mb, decide (y ∈ X) = mb := ⟨_, rfl⟩
                  obtain ⟨bb, hbb⟩ : ∃ bb, decide (z = s) = bb := ⟨_, rfl⟩
                  obtain ⟨uu, huu⟩ : ∃ uu, cUndone L X s j = uu := ⟨_, rfl⟩
                  rw [huu, hbb, hmb] at hus
                  rw [hbb] at hE
                  simp only [hmb] at HH
                  rw [huu]
                  have HUS := Lib.hid hus
                  have HG0 := Lib.hid hgr
                  have HB4 := Lib.hid hb4
                  have hms : (N : Int) - ((j : Int) + 1) < (N : Int) - (j : Int) := by omega
                  clear hc1 hc2 hy hz hra hrb hmb hbb huu hus e0 e1 hgr hb4 hb9 hg9 HHS
                  cases uu
                  · cases bb
                    · clear a0 a1 b0 b1 s0 s1
                      go_wp2
                      go_quiet (fail)
                      go_wp2
                      go_roundw
                      case rel => exact ⟨j + 1, by omega, by go_num, by rw [HUS.out]; rfl, HG0.out.trans ((Grows.refl W0).drewN nq)⟩
                      case measure => simp [intOf]; omega
                    · clear f0 f1 e2 e3
                      go_wp2
                      refine region_grown (by kernel_rfl) (by kernel_rfl) ?_
                      repeat (quiet_step ((go_at_call 36; exact grown_of_grows (HH.out _ _))))
                      refine wpQuiet_nil ?_
                      rintro W ⟨⟨nq, osq⟩, hW⟩
                      have hgW : Grows W0 W := ⟨nq, osq, hW⟩
                      clear hW a0 a1 b0 b1 s0 s1
                      go_wp2
                      go_roundw
                      case rel => exact ⟨j + 1, by omega, by go_num, by rw [HUS.out]; rfl, HG0.out.trans hgW⟩
                      case measure => simp [intOf]; omega
                  · clear a0 a1 b0 b1 s0 s1
                    go_wp2
                    go_quiet (fail)
                    go_wp2
                    go_roundw
                    case rel => exact ⟨j + 1, by omega, by go_num, by rw [HUS.out]; rfl, HG0.out.trans ((Grows.refl W0).drewN nq)⟩
                    case measure => simp [intOf]; omega
                · obtain rfl : j = N := by omega
                  rw [HUN.out]
                  clear e0 e1 hb9 HHS
                  have hfb : ((!un) == un) = false := by cases un <;> rfl
                  go_wp2
                  go_roundw
                  case rel => exact ⟨i + 1, by omega, by go_num, hb4⟩
                  case measure => simp [intOf]; omega
            · obtain rfl : i = N := by omega
              have HF := Lib.hid (HF8.out.trans (hb3.mono HF8.out.size))
              go_wp2
              go_ret
              exact ⟨rfl, HF.out⟩
    · obtain rfl : v = (k : Int) := by omega
      clear hv
      have hmN : k < N := by omega
      obtain ⟨g1, og1, rfl, hB1', hc1⟩ := rd_at stC 2 (fun _ => rfl) (by decide) HRa.out (show k < (cNames N).length by rw [cNames_len]; exact hmN)
      obtain ⟨g2, og2, rfl, hB2', hc2⟩ := rd_at stC 2 (fun _ => rfl) (by decide) HRb.out (show k < (cUndo L N).length by rw [cUndo_len]; exact hmN)
      have hsn := drop_rev' (H := cNames N) (j := k) (by rw [cNames_len]; exact hmN)
      have hsu := drop_rev' (H := cUndo L N) (j := k) (by rw [cUndo_len]; exact hmN)
      rw [cNames_get hmN] at hc1 hsn
      rw [cUndo_get hmN] at hc2 hsu
      obtain ⟨y, hy⟩ : ∃ y, cN k = y := ⟨_, rfl⟩
      obtain ⟨z, hz⟩ : ∃ z, cU L k = z := ⟨_, rfl⟩
      rw [hy] at hc1 hsn
      rw [hz] at hc2 hsu
      have HSN := Lib.hid hsn
      have HSU := Lib.hid hsu
      obtain ⟨m, hm⟩ : ∃ m, N - (k + 1) = m := ⟨_, rfl⟩
      have HM := Lib.hid (show N - k = m + 1 by omega)
      rw [hm] at HO HO' HA hLc3 hLc4 ⊢
      have hm40 : m ≤ 40 := by omega
      have HC := Lib.hid (fun W (hW : Below w2.heap.size w2 W) => (show W.cell? ⟨g1, og1 + k * 2, none⟩ = some (.int .i64 y.T) ∧ W.cell? ⟨g1, og1 + k * 2 + 1, none⟩ = some (.int .i64 y.R) ∧ W.cell? ⟨g2, og2 + k * 2, none⟩ = some (.int .i64 z.T) ∧ W.cell? ⟨g2, og2 + k * 2 + 1, none⟩ = some (.int .i64 z.R) from
        ⟨(hW.cell (p := ⟨g1, og1 + k * 2, none⟩) hB1').trans (hc1 0 _ rfl), (hW.cell (p := ⟨g1, og1 + k * 2 + 1, none⟩) hB1').trans (hc1 1 _ rfl), (hW.cell (p := ⟨g2, og2 + k * 2, none⟩) hB2').trans (hc2 0 _ rfl), (hW.cell (p := ⟨g2, og2 + k * 2 + 1, none⟩) hB2').trans (hc2 1 _ rfl)⟩))
      obtain ⟨e0, e1, e2, e3⟩ := HC.out wo hb
      have i1 : (0 : Int) ≤ (k : Int) := by omega
      have i2 : (k : Int) < (N : Int) := by omega
      clear hc1 hc2 hm hy hz hsn hsu
      go_wp2_with (at_builtin; refine wpList_append_own_at _ rfl _ _ 32 rfl w2.heap.size 24 ti _ 2 16 Try.underlying32 hi hz0 hz1 hz2 rfl (by decide) _ m ((((cNames N).drop (k + 1)).reverse).flatMap stC) rfl (HO.out.alloc _) ⟨wo.heap.size, 0, none⟩ 1 1 [.int .i64 y.T, .int .i64 y.R] rfl rfl ?qc (by simp [Value.oneCell']) ?q2 ?q3 ?q4 ?_)
      case qc => exact cells_new wo [.int .i64 y.T, .int .i64 y.R] 24
      case q2 => unfold maxLen; omega
      case q3 => omega
      case q4 => have := hb.size; simp; omega
      intro v1 W4 hown hgrow _ hat
      have hA1 : Apart v1 (.slice A4 m c4) := HA.out.new HO'.out hat (Nat.le_succ _)
      have hO4 := (HO'.out.alloc (.cells #[.int .i64 y.T, .int .i64 y.R] 24)).kept hgrow HA.out.kept
      have hb4 : Below w2.heap.size w2 W4 := (hb.alloc hb.size _).grown hgrow (by have := hb.size; simp; omega) (fun j hj => (HO.out.lt j hj).1)
      have hn4 : W4.ownsRow w2.heap.size 24 2 v1 (m + 1) ((((cNames N).drop k).reverse).flatMap stC) := by rw [HSN.out, List.flatMap_append, List.flatMap_singleton, stC_T]; exact hown
      obtain ⟨g4, cap4, R4, rfl, _⟩ := own_parts hn4 (Nat.succ_pos _)
      have HN4 := Lib.hid hn4
      have HO4 := Lib.hid hO4
      have HA1 := Lib.hid hA1
      clear hown hgrow hat hO4 hn4 hA1 e0 e1 e2 e3
      obtain ⟨e0, e1, e2, e3⟩ := HC.out W4 hb4
      go_wp2_with (at_builtin; refine wpList_append_own_at _ rfl _ _ 32 rfl w2.heap.size 24 ti _ 2 16 Try.underlying32 hi hz0 hz1 hz2 rfl (by decide) _ m ((((cUndo L N).drop (k + 1)).reverse).flatMap stC) rfl (HO4.out.alloc _) ⟨W4.heap.size, 0, none⟩ 1 1 [.int .i64 z.T, .int .i64 z.R] rfl rfl ?qc (by simp [Value.oneCell']) ?q2 ?q3 ?q4 ?_)
      case qc => exact cells_new W4 [.int .i64 z.T, .int .i64 z.R] 24
      case q2 => unfold maxLen; omega
      case q3 => omega
      case q4 => have := hb4.size; simp; omega
      intro v2 W5 hown2 hgrow2 _ hat2
      have hA2 := HA1.out.symm.new (HN4.out) hat2 (Nat.le_succ _)
      have hN5 := Lib.hid ((HN4.out.alloc (.cells #[.int .i64 z.T, .int .i64 z.R] 24)).kept hgrow2 HA1.out.symm.kept)
      have hU5 : W5.ownsRow w2.heap.size 24 2 v2 (m + 1) ((((cUndo L N).drop k).reverse).flatMap stC) := by rw [HSU.out, List.flatMap_append, List.flatMap_singleton, stC_T]; exact hown2
      have HU5 := Lib.hid hU5
      have HA2 := Lib.hid hA2
      have hb5 : Below w2.heap.size w2 W5 := (hb4.alloc hb4.size _).grown hgrow2 (by have := hb4.size; simp; omega) (fun j hj => (HO4.out.lt j hj).1)
      clear hown2 hgrow2 hat2 hU5 hA2 e0 e1 e2 e3
      go_wp2
      go_roundw
      case rel => exact ⟨k, _, by omega, rfl, by go_num, by rw [HM.out]; exact hN5.out, by rw [HM.out]; exact HU5.out, HA2.out.symm, hb5⟩
      case measure => simp [intOf]
end Go.Proofs.Ytejafcdlkpmemaa
