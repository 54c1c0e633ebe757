/- The laws of the nodes: LiveNodes. -/
import Derived.Test.YtejafcdlkpmemaaI
namespace Go.Proofs.Ytejafcdlkpmemaa
open Go Go.RowKit Go.Maps Go.Shelf
set_option maxRecDepth 100000 in
set_option maxHeartbeats 4000000 in
theorem nodes_walk (have_ gone : List Dot) (x : Id) (A A' : Option Addr) (n c n' c' : Nat) (w : World) (hR : Rd w w.heap.size 5 (.slice A n c) n (have_.flatMap dotC)) (hR' : Rd w w.heap.size 5 (.slice A' n' c') n' (gone.flatMap dotC)) :
    Calls Try.prog 3 #[.slice A n c, .slice A' n' c', idV x] w fun e w' => e = .returned (.bool true) ∧ Below w.heap.size w w' := by
  obtain ⟨w1, hw1⟩ : ∃ W, w.alloc (.cells #[.int .i64 x.s.T, .int .i64 x.s.R, .int .i64 x.I] 26) = W := ⟨_, rfl⟩
  have hb0 : Below w.heap.size w w1 := by rw [← hw1]; exact ((Grows.refl w).alloc _).below
  have hbx : w1.heap[w.heap.size]? = some (.cells #[.int .i64 x.s.T, .int .i64 x.s.R, .int .i64 x.I] 26 (0, 0)) := by rw [← hw1]; exact heap_alloc_new w _
  have hsz : w.heap.size < w1.heap.size := (Array.getElem?_eq_some_iff.1 hbx).1
  have HR := Lib.hid (hR.below' hb0 (Nat.le_refl _))
  have HR' := Lib.hid (hR'.below' hb0 (Nat.le_refl _))
  have HB0 := Lib.hid hb0
  have HW := Lib.hid hw1
  have HSZ := Lib.hid hsz
  clear hR hR' hb0 hw1
  unfold idV
  by_cases hn : n ≤ 100
  · by_cases hn' : n' ≤ 100
    · go_enter Try.func3, Try.ntmps3
      go_wp2_with fail
      rw [HW.out]
      obtain ⟨bx, hbxe⟩ : ∃ b, w.heap.size = b := ⟨_, rfl⟩
      have HBX := Lib.hid hbxe
      rw [hbxe] at hsz hbx ⊢
      have kd : Below w1.heap.size w1 w1.drew := (Below.refl _ w1).drew
      have HX := Lib.hid (fun W' (hW : Below w1.heap.size w1.drew W') => (show W'.cell? ⟨bx, 0, none⟩ = some (.int .i64 x.s.T) ∧ W'.cell? ⟨bx, 1, none⟩ = some (.int .i64 x.s.R) ∧ W'.cell? ⟨bx, 2, none⟩ = some (.int .i64 x.I) from
        ⟨((kd.trans hW).cell (p := ⟨bx, 0, none⟩) hsz).trans (cell_of_row _ _ 0 _ _ _ hbx), ((kd.trans hW).cell (p := ⟨bx, 1, none⟩) hsz).trans (cell_of_row _ _ 1 _ _ _ hbx), ((kd.trans hW).cell (p := ⟨bx, 2, none⟩) hsz).trans (cell_of_row _ _ 2 _ _ _ hbx)⟩))
      have HL := Lib.hid (fun W' (hW : Below w1.heap.size w1.drew W') => live_any have_ gone A A' n c n' c' w.heap.size W' (HR.out.below' (kd.trans hW) (by omega)) (HR'.out.below' (kd.trans hW) (by omega)) (Nat.le_trans (by omega) (kd.trans hW).size) (by omega))
      have HL2 := Lib.hid (fun W' (hW : Below w1.heap.size w1.drew W') => refLive_any have_ gone A A' n c n' c' w.heap.size W' (HR.out.below' (kd.trans hW) (by omega)) (HR'.out.below' (kd.trans hW) (by omega)) (Nat.le_trans (by omega) (kd.trans hW).size) (by omega))
      have HO := Lib.hid (fun W' (hW : Below w1.heap.size w1.drew W') => of_any have_ gone x A A' n c n' c' w.heap.size W' (HR.out.below' (kd.trans hW) (by omega)) (HR'.out.below' (kd.trans hW) (by omega)) (Nat.le_trans (by omega) (kd.trans hW).size) (by omega))
      have HO2 := Lib.hid (fun W' (hW : Below w1.heap.size w1.drew W') => refOf_any have_ gone x A A' n c n' c' w.heap.size W' (HR.out.below' (kd.trans hW) (by omega)) (HR'.out.below' (kd.trans hW) (by omega)) (Nat.le_trans (by omega) (kd.trans hW).size) (by omega))
      unfold idV at HO HO2
      have KD := Lib.hid kd
      have k1 : Below w1.heap.size w1.drew w1.drew := Below.refl _ _
      clear hbxe hbx kd
      go_region_held3 (fun w' => w'.cell? ⟨bx, 0, none⟩ = some (.int .i64 x.s.T) ∧ w'.cell? ⟨bx, 1, none⟩ = some (.int .i64 x.s.R) ∧ w'.cell? ⟨bx, 2, none⟩ = some (.int .i64 x.I))
        (first | exact HX.out _ (by assumption) | go_keep)
        (first
          | (go_at_call 18; refine (awake_any _).mono ?_; rintro e w2 ⟨rfl, hb2⟩; have k2 : Below w1.heap.size w1.drew w2 := hb2; clear hb2)
          | (go_at_call 20; refine (HL.out _ k2).mono ?_; rintro e w3 ⟨v3, L3, rfl, hO3, hS3, hM3, hb3⟩; have k3 := k2.trans (hb3.mono k2.size); obtain ⟨A3, c3, rfl, _, _⟩ := (Rd.of_own hO3).form; have O3 := Lib.hid hO3; have S3 := Lib.hid hS3; have M3 := Lib.hid hM3; clear hO3 hS3 hM3 hb3)
          | (go_at_call 21; refine (HL2.out _ k3).mono ?_; rintro e w4 ⟨v4, L4, rfl, hO4, hS4, hM4, hb4⟩; have k4 := k3.trans (hb4.mono k3.size); obtain ⟨A4, c4, rfl, _, _⟩ := (Rd.of_own hO4).form; have hs := sameId_any L3 L4 A3 A4 _ c3 _ c4 w4.heap.size w4 (((Rd.of_own O3.out).below' hb4 (Nat.le_refl _)).more hb4.size) (Rd.of_own hO4); rw [decide_eq_true (live_eq S3.out hS4 M3.out hM4)] at hs; have HS4 := Lib.hid hs; clear hO4 hS4 hM4 hb4 hs)
          | (go_at_call 19; refine HS4.out.mono ?_; rintro e w5 ⟨rfl, hg5⟩; have k5 := k4.trans (hg5.below.mono k4.size); clear hg5)
          | (go_at_call 23; refine (HO.out _ k5).mono ?_; rintro e w6 ⟨v6, L6, rfl, hO6, hS6, hM6, hb6⟩; have k6 := k5.trans (hb6.mono k5.size); obtain ⟨A6, c6, rfl, _, _⟩ := (Rd.of_own hO6).form; have O6 := Lib.hid hO6; have S6 := Lib.hid hS6; have M6 := Lib.hid hM6; clear hO6 hS6 hM6 hb6)
          | (go_at_call 24; refine (HO2.out _ k6).mono ?_; rintro e w7 ⟨v7, L7, rfl, hO7, hS7, hM7, hb7⟩; have k7 := k6.trans (hb7.mono k6.size); obtain ⟨A7, c7, rfl, _, _⟩ := (Rd.of_own hO7).form; have hs := sameSt_any L6 L7 A6 A7 _ c6 _ c7 w7.heap.size w7 (((Rd.of_own O6.out).below' hb7 (Nat.le_refl _)).more hb7.size) (Rd.of_own hO7); rw [decide_eq_true (of_eq S6.out hS7 M6.out hM7)] at hs; have HS7 := Lib.hid hs; clear hO7 hS7 hM7 hb7 hs)
          | (go_at_call 22; refine HS7.out.mono ?_; rintro e w8 ⟨rfl, hg8⟩; have k8 := k7.trans (hg8.below.mono k7.size); clear hg8))
      have HF := Lib.hid (HB0.out.trans ((KD.out.trans k8).mono (by have := HSZ.out; omega)))
      clear k1 k2 k3 k4 k5 k6 k7 k8
      go_wp2
      go_ret
      exact ⟨rfl, HF.out⟩
    · go_enter Try.func3, Try.ntmps3
      go_wp2_with fail
      rw [HW.out]
      refine (awake_any w1).mono ?_
      rintro e w2 ⟨rfl, hb2⟩
      have HF := Lib.hid (HB0.out.trans (hb2.mono (by have := HSZ.out; omega)))
      clear hb2
      go_wp2
      go_ret
      exact ⟨rfl, HF.out⟩
  · go_enter Try.func3, Try.ntmps3
    go_wp2_with fail
    rw [HW.out]
    refine (awake_any w1).mono ?_
    rintro e w2 ⟨rfl, hb2⟩
    have HF := Lib.hid (HB0.out.trans (hb2.mono (by have := HSZ.out; omega)))
    clear hb2
    go_wp2
    go_ret
    exact ⟨rfl, HF.out⟩
end Go.Proofs.Ytejafcdlkpmemaa
