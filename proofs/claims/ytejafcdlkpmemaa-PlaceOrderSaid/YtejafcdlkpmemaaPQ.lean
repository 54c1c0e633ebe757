/- The law PlaceOrder, walked. -/
import Derived.Test.YtejafcdlkpmemaaPN
namespace Go.Proofs.Ytejafcdlkpmemaa
open Go Go.RowKit Go.Maps Go.Shelf
def oIs (L : List Step) (N t m : Nat) : List Id := (List.range m).map (fun i => tI L (ix N t i))
def oPs (L : List Step) (N t m : Nat) : List Place := (List.range m).map (fun i => tP L (ix N t i))
theorem oIs_succ (L : List Step) (N t m : Nat) : oIs L N t (m + 1) = oIs L N t m ++ [tI L (ix N t m)] := by simp [oIs, List.range_succ]
theorem oPs_succ (L : List Step) (N t m : Nat) : oPs L N t (m + 1) = oPs L N t m ++ [tP L (ix N t m)] := by simp [oPs, List.range_succ]
def PoRel (L : List Step) (N t : Nat) (w : World) (a b i : Value) (wr : World) : Prop :=
  ∃ m : Nat, m ≤ N ∧ i = .int .i64 m ∧ wr.ownsRow w.heap.size 26 3 a m ((oIs L N t m).flatMap idC) ∧ wr.ownsRow w.heap.size 71 8 b m ((oPs L N t m).flatMap plC) ∧ Apart a b ∧ Below w.heap.size w wr
set_option maxRecDepth 100000 in
set_option maxHeartbeats 4000000 in
theorem placeOrder_walk (L : List Step) (A : Option Addr) (n c : Nat) (x : Int) (hx : 0 ≤ x ∧ x ≤ 255) (w : World) (hR : Rd w w.heap.size 3 (.slice A n c) n (L.flatMap stepC)) :
    Calls Try.prog 16 #[.slice A n c, .int .u8 x] w fun e w' => e = .returned (.bool true) ∧ Below w.heap.size w w' := by
  obtain ⟨t, rfl⟩ := Int.eq_ofNat_of_zero_le hx.1
  have ht255 : t ≤ 255 := by omega
  obtain ⟨i0, hi, hz0, hz1, hz2⟩ := info_parts info26
  obtain ⟨j0, gi, gz0, gz1, gz2⟩ := info_parts info71
  have HR := Lib.hid (fun W (hb : Below w.heap.size w W) => hR.below' hb (Nat.le_refl _))
  clear hR hx
  go_enter Try.func16, Try.ntmps16
  go_wp2_with fail
  refine (pawake_any w).mono ?_
  rintro e w1 ⟨rfl, hb1⟩
  have HB1 := Lib.hid hb1
  clear hb1
  go_wp2_with fail
  refine (told_any L A n c w.heap.size w1 (HR.out _ HB1.out) HB1.out.size).mono ?_
  rintro e w2 ⟨va, vb, rfl, hOa, hOb, _, hb2⟩
  obtain ⟨Aa, ca, rfl, _, _⟩ := (Rd.of_own hOa).form
  obtain ⟨Ab, cb, rfl, _, _⟩ := (Rd.of_own hOb).form
  obtain ⟨N, hN⟩ : ∃ N, min L.length 40 = N := ⟨_, rfl⟩
  rw [hN] at hOa hOb ⊢
  have hN40 : N ≤ 40 := by omega
  have HRa := Lib.hid (fun W (hb : Below w2.heap.size w2 W) => (Rd.of_own hOa).below' hb (Nat.le_refl _))
  have HRb := Lib.hid (fun W (hb : Below w2.heap.size w2 W) => (Rd.of_own hOb).below' hb (Nat.le_refl _))
  have HB2 := Lib.hid (HB1.out.trans (hb2.mono HB1.out.size))
  have w3 : IntKind.i64.wrap (t : Int) = t := IntWalk.i64_in _ (by omega)
  clear hN hOa hOb hb2 HR HB1
  go_wp2
  go_loopw [8, 9, 10] (fun a b i wr => PoRel L N t w2 a b i wr) (fun _ _ i _ => N - (intOf i).toNat)
  case atStart => exact ⟨0, Nat.zero_le _, rfl, World.ownsRow_nil _ _ _ _, World.ownsRow_nil _ _ _ _, apart_nil _, Below.refl _ _⟩
  case round =>
    obtain ⟨k, hk, rfl, hO, hO', hA, hb⟩ := hrel
    obtain ⟨A1, c1, rfl, hLc, hcm2⟩ := (Rd.of_own hO).form
    obtain ⟨A2, c2, rfl, hLc', hcm2'⟩ := (Rd.of_own hO').form
    have HO := Lib.hid hO
    have HO' := Lib.hid hO'
    have HA := Lib.hid hA
    obtain ⟨wo, rfl⟩ : ∃ wo : World, wo = wr := ⟨_, rfl⟩
    by_cases hlt : k < N
    · obtain ⟨j, hj⟩ : ∃ j, ix N t k = j := ⟨_, rfl⟩
      have hjN : j < N := hj ▸ ix_lt hlt
      have hIS := oIs_succ L N t k
      have hPS := oPs_succ L N t k
      rw [hj] at hIS hPS
      have HIS := Lib.hid hIS
      have HPS := Lib.hid hPS
      have m1 : Int.tmod ((N : Int) - 1 - (k : Int) + (t : Int)) (N : Int) = (j : Int) := by
        rw [Int.tmod_eq_emod_of_nonneg (by omega), show (N : Int) - 1 - (k : Int) + (t : Int) = ((N - 1 - k + t : Nat) : Int) by omega, ← hj]
        rfl
      obtain ⟨g, og, rfl, hBg, hcg⟩ := rd_at idC 3 (fun _ => rfl) (by decide) (HRa.out wo hb) (show j < (tIs L N).length by rw [tIs_len]; exact hjN)
      obtain ⟨g2, og2, rfl, hBg2, hcg2⟩ := rd_at plC 8 (fun _ => rfl) (by decide) (HRb.out wo hb) (show j < (tPs L N).length by rw [tPs_len]; exact hjN)
      rw [tIs_get] at hcg
      rw [tPs_get] at hcg2
      obtain ⟨y, hy⟩ : ∃ y, tI L j = y := ⟨_, rfl⟩
      obtain ⟨p, hp⟩ : ∃ p, tP L j = p := ⟨_, rfl⟩
      rw [hy] at hcg HIS
      rw [hp] at hcg2 HPS
      have e0 : wo.cell? ⟨g, og + j * 3, none⟩ = some (.int .i64 y.s.T) := hcg 0 _ rfl
      have e1 := hcg 1 _ rfl
      have e2 := hcg 2 _ rfl
      have HC := Lib.hid (fun W (hW : Below w2.heap.size wo W) => (show W.cell? ⟨g2, og2 + j * 8, none⟩ = some (.int .i64 p.nd.s.T) ∧ W.cell? ⟨g2, og2 + j * 8 + 1, none⟩ = some (.int .i64 p.nd.s.R) ∧ W.cell? ⟨g2, og2 + j * 8 + 2, none⟩ = some (.int .i64 p.nd.I) ∧ W.cell? ⟨g2, og2 + j * 8 + 3, none⟩ = some (.int .i64 p.pa.s.T) ∧ W.cell? ⟨g2, og2 + j * 8 + 4, none⟩ = some (.int .i64 p.pa.s.R) ∧ W.cell? ⟨g2, og2 + j * 8 + 5, none⟩ = some (.int .i64 p.pa.I) ∧ W.cell? ⟨g2, og2 + j * 8 + 6, none⟩ = some (.string p.nm) ∧ W.cell? ⟨g2, og2 + j * 8 + 7, none⟩ = some (.bool p.dir) from
        ⟨(hW.cell (p := ⟨g2, og2 + j * 8, none⟩) hBg2).trans (hcg2 0 _ rfl), (hW.cell (p := ⟨g2, og2 + j * 8 + 1, none⟩) hBg2).trans (hcg2 1 _ rfl), (hW.cell (p := ⟨g2, og2 + j * 8 + 2, none⟩) hBg2).trans (hcg2 2 _ rfl), (hW.cell (p := ⟨g2, og2 + j * 8 + 3, none⟩) hBg2).trans (hcg2 3 _ rfl), (hW.cell (p := ⟨g2, og2 + j * 8 + 4, none⟩) hBg2).trans (hcg2 4 _ rfl), (hW.cell (p := ⟨g2, og2 + j * 8 + 5, none⟩) hBg2).trans (hcg2 5 _ rfl), (hW.cell (p := ⟨g2, og2 + j * 8 + 6, none⟩) hBg2).trans (hcg2 6 _ rfl), (hW.cell (p := ⟨g2, og2 + j * 8 + 7, none⟩) hBg2).trans (hcg2 7 _ rfl)⟩))
      have i1 : (0 : Int) ≤ (j : Int) := by omega
      have i2 : (j : Int) < (N : Int) := by omega
      have i3 : (k : Int) < (N : Int) := by omega
      have i4 : ((N : Int) == 0) = false := by simp; omega
      clear hO hO' hA hIS hPS hj hcg hcg2 hy hp
      go_wp2_with (at_builtin; refine wpList_append_own_at _ rfl _ _ 29 rfl w2.heap.size 26 i0 _ 3 24 Try.underlying29 hi hz0 hz1 hz2 rfl (by decide) _ k ((oIs L N t k).flatMap idC) rfl (HO.out.alloc (.cells #[.int .i64 y.s.T, .int .i64 y.s.R, .int .i64 y.I] 26)) ⟨wo.heap.size, 0, none⟩ 1 1 [.int .i64 y.s.T, .int .i64 y.s.R, .int .i64 y.I] rfl rfl ?qc (by simp [Value.oneCell']) ?q2 ?q3 ?q4 ?_)
      case qc => exact cells_new wo [.int .i64 y.s.T, .int .i64 y.s.R, .int .i64 y.I] 26
      case q2 => unfold maxLen; omega
      case q3 => omega
      case q4 => have := hb.size; simp; omega
      intro v1 W4 hown hgrow _ hat
      have hA1 : Apart v1 (.slice A2 k c2) := HA.out.new HO'.out hat (Nat.le_succ _)
      have hO4 := (HO'.out.alloc (.cells #[.int .i64 y.s.T, .int .i64 y.s.R, .int .i64 y.I] 26)).kept hgrow HA.out.kept
      have hk4 : Below w2.heap.size wo W4 := ((Below.refl w2.heap.size wo).alloc hb.size _).grown hgrow (by have := hb.size; simp; omega) (fun j hj => (HO.out.lt j hj).1)
      have hb4 : Below w2.heap.size w2 W4 := hb.trans hk4
      have hn4 : W4.ownsRow w2.heap.size 26 3 v1 (k + 1) ((oIs L N t (k + 1)).flatMap idC) := by rw [HIS.out, List.flatMap_append, List.flatMap_singleton]; exact hown
      obtain ⟨g4, cap4, R4, rfl, _⟩ := own_parts hn4 (Nat.succ_pos _)
      have HN4 := Lib.hid hn4
      have HO4 := Lib.hid hO4
      have HA1 := Lib.hid hA1
      obtain ⟨q0, q1, q2, q3, q4, q5, q6, q7⟩ := HC.out W4 hk4
      clear hown hgrow hat hO4 hn4 hA1 e0 e1 e2 hk4
      go_wp2_with (at_builtin; refine wpList_append_own_at _ rfl _ _ 60 rfl w2.heap.size 71 j0 _ 8 72 Try.underlying60 gi gz0 gz1 gz2 rfl (by decide) _ k ((oPs L N t k).flatMap plC) rfl (HO4.out.alloc (.cells (plC p).toArray 71)) ⟨W4.heap.size, 0, none⟩ 1 1 (plC p) rfl rfl ?qc (plC_one p) ?q2 ?q3 ?q4 ?_)
      case qc => exact cells_new W4 (plC p) 71
      case q2 => unfold maxLen; omega
      case q3 => omega
      case q4 => have := hb4.size; simp; omega
      intro v2 W5 hown2 hgrow2 _ hat2
      have hA2 := HA1.out.symm.new (HN4.out) hat2 (Nat.le_succ _)
      have hN5 := Lib.hid ((HN4.out.alloc (.cells (plC p).toArray 71)).kept hgrow2 HA1.out.symm.kept)
      have hU5 : W5.ownsRow w2.heap.size 71 8 v2 (k + 1) ((oPs L N t (k + 1)).flatMap plC) := by rw [HPS.out, List.flatMap_append, List.flatMap_singleton]; exact hown2
      have HU5 := Lib.hid hU5
      have HA2 := Lib.hid hA2
      have hb5 : Below w2.heap.size w2 W5 := (hb4.alloc hb4.size (.cells (plC p).toArray 71)).grown hgrow2 (by have := hb4.size; simp; omega) (fun j hj => (HO4.out.lt j hj).1)
      clear hown2 hgrow2 hat2 hU5 hA2 q0 q1 q2 q3 q4 q5 q6 q7
      go_wp2
      go_roundw
      case rel => exact ⟨k + 1, by omega, by go_num, hN5.out, HU5.out, HA2.out.symm, hb5⟩
      case measure => simp [intOf]; omega
    · obtain rfl : k = N := by omega
      have HP := Lib.hid (fun W (hW : Below w2.heap.size w2 W) => replay_any (tIs L k) (tPs L k) Aa Ab k ca k cb w2.heap.size W (HRa.out W hW) (HRb.out W hW) hW.size (by omega))
      have HQ := Lib.hid (fun W (hW : Below wo.heap.size wo W) => replay_any (oIs L k t k) (oPs L k t k) A1 A2 k c1 k c2 wo.heap.size W ((Rd.of_own hO).below' hW (Nat.le_refl _)) ((Rd.of_own hO').below' hW (Nat.le_refl _)) hW.size (by omega))
      have HB := Lib.hid hb
      have HB3 := Lib.hid (HB2.out.trans (hb.mono HB2.out.size))
      clear hO hO' hA hb hk HO HO' HA
      go_wp2_with fail
      refine (HP.out _ HB.out).mono ?_
      rintro e W3 ⟨v3, T3, rfl, hT3, _, hO3, hb3⟩
      have k3 := hb3
      obtain ⟨A3, c3, rfl, _, _⟩ := (Rd.of_own hO3).form
      have O3 := Lib.hid hO3
      have T3h := Lib.hid hT3
      clear hO3 hT3 hb3
      go_wp2_with fail
      refine (HQ.out _ k3).mono ?_
      rintro e W4 ⟨v4, T4, rfl, hT4, _, hO4, hb4⟩
      have k4 := k3.trans (hb4.mono k3.size)
      obtain rfl := told_same hN40 T3h.out hT4
      obtain ⟨A4, c4, rfl, _, _⟩ := (Rd.of_own hO4).form
      have hs := samePl_any (replayL T3) (replayL T3) A3 A4 _ c3 _ c4 W4.heap.size W4 (((Rd.of_own O3.out).below' hb4 (Nat.le_refl _)).more hb4.size) (Rd.of_own hO4)
      rw [decide_eq_true rfl] at hs
      have HS4 := Lib.hid hs
      clear hO4 hT4 hs hb4 T3h O3
      go_wp2_with fail
      refine HS4.out.mono ?_
      rintro e W5 ⟨rfl, hg5⟩
      have k5 := k4.trans (hg5.below.mono k4.size)
      have HF := Lib.hid (HB3.out.trans (k5.mono HB3.out.size))
      clear k3 k4 k5 hg5
      go_wp2
      go_ret
      exact ⟨rfl, HF.out⟩
end Go.Proofs.Ytejafcdlkpmemaa
