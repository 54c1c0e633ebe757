/- The law PlaceSmall, walked. -/
import Derived.Test.YtejafcdlkpmemaaPN
import Derived.Test.YtejafcdlkpmemaaPL
namespace Go.Proofs.Ytejafcdlkpmemaa
open Go Go.RowKit Go.Maps Go.Shelf
def nineId (x : Int) (hx : 0 ≤ x ∧ x ≤ 255) : Id := nid (1 + x % 9) (by have := hx.1; unfold I64; omega)
set_option maxRecDepth 100000 in
set_option maxHeartbeats 4000000 in
theorem placeSmall_walk (L : List Step) (A : Option Addr) (n c : Nat) (x up : Int) (hx : 0 ≤ x ∧ x ≤ 255) (hup : 0 ≤ up ∧ up ≤ 255) (w : World) (hR : Rd w w.heap.size 3 (.slice A n c) n (L.flatMap stepC)) :
    Calls Try.prog 14 #[.slice A n c, .int .u8 x, .int .u8 up] w fun e w' => e = .returned (.bool true) ∧ Below w.heap.size w w' := by
  have HR := Lib.hid hR
  obtain ⟨u, hu⟩ : ∃ u, 1 + x % 9 = u := ⟨_, rfl⟩
  have HY := Lib.hid (show idV (nineId x hx) = .agg #[.int .i64 u, .int .i64 1, .int .i64 0] from by rw [← hu]; rfl)
  obtain ⟨r, hr⟩ : ∃ r, x % 9 = r := ⟨_, rfl⟩
  rw [hr] at hu
  have m1 : Int.tmod x 9 = r := by rw [Int.tmod_eq_emod_of_nonneg hx.1, hr]
  have a1 : IntKind.i64.wrap (1 + r) = u := by rw [IntWalk.i64_in _ (by omega)]; omega
  have w1 : IntKind.i64.wrap x = x := IntWalk.i64_in _ (by omega)
  obtain ⟨u', hu'⟩ : ∃ u, 1 + up % 9 = u := ⟨_, rfl⟩
  have HZ := Lib.hid (show idV (nineId up hup) = .agg #[.int .i64 u', .int .i64 1, .int .i64 0] from by rw [← hu']; rfl)
  obtain ⟨r', hr'⟩ : ∃ r, up % 9 = r := ⟨_, rfl⟩
  rw [hr'] at hu'
  have m2 : Int.tmod up 9 = r' := by rw [Int.tmod_eq_emod_of_nonneg hup.1, hr']
  have a2 : IntKind.i64.wrap (1 + r') = u' := by rw [IntWalk.i64_in _ (by omega)]; omega
  have w2 : IntKind.i64.wrap up = up := IntWalk.i64_in _ (by omega)
  generalize nineId x hx = y at HY
  generalize nineId up hup = z at HZ
  clear hR hr hu hr' hu' hx hup
  go_enter Try.func14, Try.ntmps14
  go_wp2_with fail
  refine (told_any L A n c w.heap.size w HR.out (Nat.le_refl _)).mono ?_
  rintro e W1 ⟨va, vb, rfl, hOa, hOb, _, hb1⟩
  obtain ⟨Aa, ca, rfl, _, _⟩ := (Rd.of_own hOa).form
  obtain ⟨Ab, cb, rfl, _, _⟩ := (Rd.of_own hOb).form
  obtain ⟨N, hN⟩ : ∃ N, min L.length 40 = N := ⟨_, rfl⟩
  rw [hN] at hOa hOb ⊢
  have hN40 : N ≤ 40 := by omega
  have HRa := Lib.hid (fun W (hb : Below W1.heap.size W1 W) => (Rd.of_own hOa).below' hb (Nat.le_refl _))
  have HRb := Lib.hid (fun W (hb : Below W1.heap.size W1 W) => (Rd.of_own hOb).below' hb (Nat.le_refl _))
  have HP := Lib.hid (fun W (hb : Below W1.heap.size W1 W) => replay_any (tIs L N) (tPs L N) Aa Ab N ca N cb W1.heap.size W (HRa.out W hb) (HRb.out W hb) hb.size (by omega))
  have HQ := Lib.hid (fun W (hb : Below W1.heap.size W1 W) => rreplay_any (tIs L N) (tPs L N) Aa Ab N ca N cb W1.heap.size W (HRa.out W hb) (HRb.out W hb) hb.size (by omega))
  have HB1 := Lib.hid hb1
  clear hN hOa hOb hb1 HR
  go_wp2_with fail
  refine (HP.out _ (Below.refl _ _)).mono ?_
  rintro e W2 ⟨v2, T, rfl, hT, hTl, hO2, hb2⟩
  obtain ⟨A2, c2, rfl, _, _⟩ := (Rd.of_own hO2).form
  have hPl := replay_len T T.length (Nat.le_refl _)
  rw [List.take_length] at hPl
  rw [tIs_len] at hTl
  have HT := Lib.hid hT
  have HO2 := Lib.hid hO2
  have k2 := hb2
  clear hT hO2 hb2
  go_wp2_with fail
  refine (HQ.out _ k2).mono ?_
  rintro e W3 ⟨v3, S, rfl, hS, _, hO3, hb3⟩
  obtain rfl := toldOf_same HT.out hS
  obtain ⟨A3, c3, rfl, _, _⟩ := (Rd.of_own hO3).form
  obtain ⟨P, hP⟩ : ∃ P, replayL T = P := ⟨_, rfl⟩
  rw [hP] at HO2 hO3 hPl ⊢
  have hP40 : P.length ≤ 40 := by omega
  have HR2 := Lib.hid (fun W (hb : Below W3.heap.size W3 W) => (((Rd.of_own HO2.out).below' hb3 (Nat.le_refl _)).more hb3.size).below' hb (Nat.le_refl _))
  have HR3 := Lib.hid (fun W (hb : Below W3.heap.size W3 W) => (Rd.of_own hO3).below' hb (Nat.le_refl _))
  have HB3 := Lib.hid (HB1.out.trans ((k2.trans (hb3.mono k2.size)).mono HB1.out.size))
  clear hS hO3 hP hPl hTl hb3 k2 HT HO2 HP HQ HRa HRb HB1
  go_wp2_with fail
  refine (id2_at u 1 _).mono ?_
  rintro e W4 ⟨rfl, hg4⟩
  go_wp2_with fail
  refine (id2_at u' 1 _).mono ?_
  rintro e W5 ⟨rfl, hg5⟩
  have hg35 := hg4.trans hg5
  clear m1 m2 a1 a2 w1 w2 hg4 hg5
  go_wp2_with fail
  obtain ⟨wf, hwf⟩ : ∃ W, (W5.alloc (.cells #[.int .i64 u, .int .i64 1, .int .i64 0] 26)).alloc (.cells #[.int .i64 u', .int .i64 1, .int .i64 0] 26) = W := ⟨_, rfl⟩
  have hgf : Grows W3 wf := hg35.trans (by rw [← hwf]; exact ((Grows.refl W5).alloc _).alloc _)
  have hx0 : wf.heap[W5.heap.size]? = some (.cells #[.int .i64 u, .int .i64 1, .int .i64 0] 26 (0, 0)) := by rw [← hwf]; exact (Below.heap_alloc _ _ _ (by simp)).trans (heap_alloc_new W5 _)
  have hu0 : wf.heap[W5.heap.size + 1]? = some (.cells #[.int .i64 u', .int .i64 1, .int .i64 0] 26 (0, 0)) := by
    rw [← hwf]
    have := heap_alloc_new (W5.alloc (.cells #[.int .i64 u, .int .i64 1, .int .i64 0] 26)) (.cells #[.int .i64 u', .int .i64 1, .int .i64 0] 26)
    rwa [World.size_alloc] at this
  rw [hwf]
  have hxl := (Array.getElem?_eq_some_iff.1 hx0).1
  have hul := (Array.getElem?_eq_some_iff.1 hu0).1
  obtain ⟨bx, hbx⟩ : ∃ k, W5.heap.size = k := ⟨_, rfl⟩
  obtain ⟨bu, hbu⟩ : ∃ k, W5.heap.size + 1 = k := ⟨_, rfl⟩
  rw [hbu] at hu0 hul ⊢
  rw [hbx] at hx0 hxl ⊢
  have hf := hgf.below
  have HX := Lib.hid (fun W' (hW : Below wf.heap.size wf W') => (show W'.cell? ⟨bx, 0, none⟩ = some (.int .i64 u) ∧ W'.cell? ⟨bx, 1, none⟩ = some (.int .i64 1) ∧ W'.cell? ⟨bx, 2, none⟩ = some (.int .i64 0) ∧ W'.cell? ⟨bu, 0, none⟩ = some (.int .i64 u') ∧ W'.cell? ⟨bu, 1, none⟩ = some (.int .i64 1) ∧ W'.cell? ⟨bu, 2, none⟩ = some (.int .i64 0) from
    ⟨(hW.cell (p := ⟨bx, 0, none⟩) hxl).trans (cell_of_row _ _ 0 _ _ _ hx0), (hW.cell (p := ⟨bx, 1, none⟩) hxl).trans (cell_of_row _ _ 1 _ _ _ hx0), (hW.cell (p := ⟨bx, 2, none⟩) hxl).trans (cell_of_row _ _ 2 _ _ _ hx0), (hW.cell (p := ⟨bu, 0, none⟩) hul).trans (cell_of_row _ _ 0 _ _ _ hu0), (hW.cell (p := ⟨bu, 1, none⟩) hul).trans (cell_of_row _ _ 1 _ _ _ hu0), (hW.cell (p := ⟨bu, 2, none⟩) hul).trans (cell_of_row _ _ 2 _ _ _ hu0)⟩))
  have HF := Lib.hid (fun W' (hW : Below wf.heap.size wf W') => hf.trans (hW.mono hf.size))
  have HC38 := Lib.hid (fun W (hW : Below wf.heap.size wf W) => (show Calls Try.prog 38 #[.slice A2 P.length c2, .slice A3 P.length c3] W (fun e w' => e = .returned (.bool true) ∧ Grows W w') from
    (samePl_any P P A2 A3 _ c2 _ c3 _ W (HR2.out W (HF.out W hW)) (HR3.out W (HF.out W hW))).mono (by rintro e w' ⟨rfl, hg⟩; exact ⟨by rw [decide_eq_true rfl], hg⟩)))
  obtain ⟨R, hRe⟩ : ∃ R, withinGo P (P.length + 1) y z = R := ⟨_, rfl⟩
  have HC41 := Lib.hid (fun W (hW : Below wf.heap.size wf W) => (show Calls Try.prog 41 #[.slice A3 P.length c3, idV y, idV z] W (fun e w' => e = .returned (.bool R) ∧ Below W.heap.size W w') from hRe ▸ pwithin_any P y z A3 _ c3 W3.heap.size W (HR3.out W (HF.out W hW)) ((HF.out W hW).size) (by omega)))
  have HC42 := Lib.hid (fun W (hW : Below wf.heap.size wf W) => (show Calls Try.prog 42 #[.slice A3 P.length c3, idV y, idV z] W (fun e w' => e = .returned (.bool R) ∧ Below W.heap.size W w') from hRe ▸ rwithin_any P y z A3 _ c3 W3.heap.size W (HR3.out W (HF.out W hW)) ((HF.out W hW).size) (by omega)))
  rw [HY.out, HZ.out] at HC41 HC42
  have HBf := Lib.hid (HB3.out.trans (hf.mono HB3.out.size))
  have k1 : Below wf.heap.size wf wf.drew := (Below.refl _ wf).drew
  have HA := Lib.hid (fun W => pawake_any W)
  have hwl : w.heap.size ≤ wf.heap.size := HBf.out.size
  clear hwf hgf hx0 hu0 hbx hbu hf hg35 hRe HR2 HR3 HB3 HY HZ
  go_region_held3 (fun W' => W'.cell? ⟨bx, 0, none⟩ = some (.int .i64 u) ∧ W'.cell? ⟨bx, 1, none⟩ = some (.int .i64 1) ∧ W'.cell? ⟨bx, 2, none⟩ = some (.int .i64 0) ∧ W'.cell? ⟨bu, 0, none⟩ = some (.int .i64 u') ∧ W'.cell? ⟨bu, 1, none⟩ = some (.int .i64 1) ∧ W'.cell? ⟨bu, 2, none⟩ = some (.int .i64 0))
    (first | exact HX.out _ (by assumption) | go_keep)
    (first
      | (go_at_call 37; refine (HA.out _).mono ?_; rintro e w2 ⟨rfl, hb2⟩; have k2 := k1.trans (hb2.mono k1.size); clear hb2)
      | (go_at_call 38; refine (HC38.out _ k2).mono ?_; rintro e w3 ⟨rfl, hg3⟩; have k3 := k2.trans (hg3.below.mono k2.size); clear hg3)
      | (go_at_call 41; refine (HC41.out _ k3).mono ?_; rintro e w4 ⟨rfl, hb4⟩; have k4 := k3.trans (hb4.mono k3.size); clear hb4)
      | (go_at_call 42; refine (HC42.out _ k4).mono ?_; rintro e w5 ⟨rfl, hb5⟩; have k5 := k4.trans (hb5.mono k4.size); clear hb5))
  have HFin := Lib.hid (HBf.out.trans (k5.mono hwl))
  clear k1 k2 k3 k4 k5
  go_wp2
  go_ret
  exact ⟨rfl, HFin.out⟩
end Go.Proofs.Ytejafcdlkpmemaa
