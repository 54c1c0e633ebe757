/- The law EffectOn, walked. -/
import Derived.Test.YtejafcdlkpmemaaEQ
import Derived.Test.YtejafcdlkpmemaaEL
import Derived.Test.YtejafcdlkpmemaaEN
namespace Go.Proofs.Ytejafcdlkpmemaa
open Go Go.RowKit Go.Maps Go.Shelf
set_option maxRecDepth 100000 in
set_option maxHeartbeats 4000000 in
theorem effectOn_walk (a b : List Stamp) (x : Stamp) (A A' : Option Addr) (n c n' c' : Nat) (w : World) (hR : Rd w w.heap.size 2 (.slice A n c) n (a.flatMap stC)) (hR' : Rd w w.heap.size 2 (.slice A' n' c') n' (b.flatMap stC)) :
    Calls Try.prog 7 #[.slice A n c, .slice A' n' c', stV x] w fun e w' => e = .returned (.bool true) ∧ Below w.heap.size w w' := by
  obtain rfl := len_of stC 2 (fun _ => rfl) (by decide) hR.1
  obtain rfl := len_of stC 2 (fun _ => rfl) (by decide) hR'.1
  obtain ⟨w1, hw1⟩ : ∃ W, w.alloc (.cells #[.int .i64 x.T, .int .i64 x.R] 24) = W := ⟨_, rfl⟩
  have hb0 : Below w.heap.size w w1 := by rw [← hw1]; exact ((Grows.refl w).alloc _).below
  have hbx : w1.heap[w.heap.size]? = some (.cells #[.int .i64 x.T, .int .i64 x.R] 24 (0, 0)) := by rw [← hw1]; exact heap_alloc_new w _
  have hsz : w.heap.size < w1.heap.size := (Array.getElem?_eq_some_iff.1 hbx).1
  have HR := Lib.hid (fun W (hb : Below w1.heap.size w1 W) => (hR.below' hb0 (Nat.le_refl _)).below' hb (Nat.le_of_lt hsz))
  have HR' := Lib.hid (fun W (hb : Below w1.heap.size w1 W) => (hR'.below' hb0 (Nat.le_refl _)).below' hb (Nat.le_of_lt hsz))
  have HX := Lib.hid (fun W' (hW : Below w1.heap.size w1 W') => (show W'.cell? ⟨w.heap.size, 0, none⟩ = some (.int .i64 x.T) ∧ W'.cell? ⟨w.heap.size, 1, none⟩ = some (.int .i64 x.R) from
    ⟨(hW.cell (p := ⟨w.heap.size, 0, none⟩) hsz).trans (cell_of_row _ _ 0 _ _ _ hbx), (hW.cell (p := ⟨w.heap.size, 1, none⟩) hsz).trans (cell_of_row _ _ 1 _ _ _ hbx)⟩))
  have HB0 := Lib.hid hb0
  have HW := Lib.hid hw1
  have HSZ := Lib.hid hsz
  clear hR hR' hb0 hw1 hbx hsz
  unfold stV
  by_cases hn : a.length ≤ 100
  · by_cases hn' : b.length ≤ 100
    · go_enter Try.func7, Try.ntmps7
      go_wp2_with fail
      rw [HW.out]
      obtain ⟨bx, hbxe⟩ : ∃ k, w.heap.size = k := ⟨_, rfl⟩
      rw [hbxe] at HX HR HR' ⊢
      have HBX := Lib.hid hbxe
      clear hbxe
      have k1 : Below w1.heap.size w1 w1 := Below.refl _ _
      refine (zip_any a b A A' _ c _ c' bx w1 (HR.out _ k1) (HR'.out _ k1) (by have := HSZ.out; have := HBX.out; omega) (by omega)).mono ?_
      rintro e w2 ⟨v2, rfl, hO2, k2⟩
      obtain ⟨A2, c2, rfl, _, _⟩ := (Rd.of_own hO2).form
      have HZ := Lib.hid (fun W (hb : Below w2.heap.size w2 W) => (Rd.of_own hO2).below' hb (Nat.le_refl _))
      obtain ⟨x0, x1⟩ := HX.out w2 k2
      clear hO2 k1
      go_wp2_with fail
      refine (root_any a b x A A' _ c _ c' bx w2 (HR.out _ k2) (HR'.out _ k2) (by have := HSZ.out; have := HBX.out; have := k2.size; omega) (by omega)).mono ?_
      rintro e w3 ⟨he, hb3⟩
      obtain ⟨r, hr⟩ : ∃ r, rootR (rootGo (zipH a b) zeroS (min a.length b.length + 1) x true) = r := ⟨_, rfl⟩
      rw [hr] at he
      obtain ⟨y, ev, er⟩ := r
      unfold stV at he
      dsimp only at he
      subst he
      have HRr := Lib.hid hr
      have k3 := k2.trans (hb3.mono k2.size)
      have h23 := hb3.size
      have HZ3 := Lib.hid (fun W (hb : Below w3.heap.size w3 W) => HZ.out W (hb3.trans (hb.mono hb3.size)))
      have hk3 := k3.alloc k3.size (.cells #[.int .i64 y.T, .int .i64 y.R] 24)
      clear x0 x1 hr hb3
      obtain ⟨x0, x1⟩ := HX.out _ hk3
      go_wp2_with fail
      obtain ⟨w4, hw4⟩ : ∃ W, w3.alloc (.cells #[.int .i64 y.T, .int .i64 y.R] 24) = W := ⟨_, rfl⟩
      have hh4 : w4.heap[w3.heap.size]? = some (.cells #[.int .i64 y.T, .int .i64 y.R] 24 (0, 0)) := by rw [← hw4]; exact heap_alloc_new w3 _
      have hg4 : Grows w3 w4 := by rw [← hw4]; exact (Grows.refl w3).alloc _
      rw [hw4] at hk3 x0 x1 ⊢
      obtain ⟨b8, hb8⟩ : ∃ k, w3.heap.size = k := ⟨_, rfl⟩
      have HB8 := Lib.hid hb8
      have hHZ4 := HZ3.out w4 hg4.below
      rw [hb8] at hh4 ⊢
      have HH4 := Lib.hid hh4
      clear hw4 hb8 hh4
      refine (rroot_any (zipH a b) x A2 _ c2 w2.heap.size w4 hHZ4 (by have := (hg4.below).size; have := HB8.out; omega) (by rw [zipH_len]; omega)).mono ?_
      rintro e w5 ⟨he, hb5⟩
      rw [show (zipH a b).length + 1 = min a.length b.length + 1 by rw [zipH_len], HRr.out] at he
      unfold stV at he
      dsimp only at he
      subst he
      have k5 := hk3.trans (hb5.mono hk3.size)
      have hk5 := k5.alloc k5.size (.cells #[.int .i64 y.T, .int .i64 y.R] 24)
      clear x0 x1 hHZ4
      obtain ⟨x0, x1⟩ := HX.out _ hk5
      go_wp2_with fail
      obtain ⟨w6, hw6⟩ : ∃ W, w5.alloc (.cells #[.int .i64 y.T, .int .i64 y.R] 24) = W := ⟨_, rfl⟩
      have hh6 : w6.heap[w5.heap.size]? = some (.cells #[.int .i64 y.T, .int .i64 y.R] 24 (0, 0)) := by rw [← hw6]; exact heap_alloc_new w5 _
      have hg6 : Grows w5 w6 := by rw [← hw6]; exact (Grows.refl w5).alloc _
      rw [hw6] at hk5 x0 x1 ⊢
      have hl8 := (Array.getElem?_eq_some_iff.1 HH4.out).1
      have hh8 : w6.heap[b8]? = some (.cells #[.int .i64 y.T, .int .i64 y.R] 24 (0, 0)) := (hg6.below.block _ (Nat.lt_of_lt_of_le hl8 hb5.size)).trans ((hb5.block _ hl8).trans HH4.out)
      obtain ⟨b11, hb11⟩ : ∃ k, w5.heap.size = k := ⟨_, rfl⟩
      rw [hb11] at hh6 ⊢
      have hl8' := (Array.getElem?_eq_some_iff.1 hh8).1
      have hl11 := (Array.getElem?_eq_some_iff.1 hh6).1
      have HY := Lib.hid (fun W' (hW : Below w6.heap.size w6 W') => (show W'.cell? ⟨b8, 0, none⟩ = some (.int .i64 y.T) ∧ W'.cell? ⟨b8, 1, none⟩ = some (.int .i64 y.R) ∧ W'.cell? ⟨b11, 0, none⟩ = some (.int .i64 y.T) ∧ W'.cell? ⟨b11, 1, none⟩ = some (.int .i64 y.R) from
        ⟨(hW.cell (p := ⟨b8, 0, none⟩) hl8').trans (cell_of_row _ _ 0 _ _ _ hh8), (hW.cell (p := ⟨b8, 1, none⟩) hl8').trans (cell_of_row _ _ 1 _ _ _ hh8), (hW.cell (p := ⟨b11, 0, none⟩) hl11).trans (cell_of_row _ _ 0 _ _ _ hh6), (hW.cell (p := ⟨b11, 1, none⟩) hl11).trans (cell_of_row _ _ 1 _ _ _ hh6)⟩))
      have hg36 : Below w3.heap.size w3 w6 := (hg4.below.trans (hb5.mono hg4.below.size)).trans (hg6.below.mono (Nat.le_trans hg4.below.size hb5.size))
      have HZ6 := Lib.hid (fun W (hb : Below w6.heap.size w6 W) => HZ3.out W (hg36.trans (hb.mono hg36.size)))
      have h26 : w2.heap.size ≤ w6.heap.size := Nat.le_trans h23 hg36.size
      clear x0 x1 hw6 hh6 hg6 hh8 hb11 hl8 hl8' hl11 hg36 hb5 hg4 k5 k3 HH4 HZ3 HZ
      refine (eawake_any w6).mono ?_
      rintro e w7 ⟨rfl, k7⟩
      go_wp2_with fail
      refine (on_any a b A A' _ c _ c' bx w7 (HR.out _ (hk5.trans (k7.mono hk5.size))) (HR'.out _ (hk5.trans (k7.mono hk5.size))) (by have := HSZ.out; have := HBX.out; have := k7.size; have := hk5.size; omega) (by omega)).mono ?_
      rintro e w8 ⟨v8, L, rfl, hO8, hL8, _, hb8'⟩
      obtain ⟨A8, c8, rfl, _, _⟩ := (Rd.of_own hO8).form
      have HO8 := Lib.hid hO8
      have k8 := k7.trans (hb8'.mono k7.size)
      clear hO8
      go_wp2_with fail
      refine (ron_any (zipH a b) A2 _ c2 w2.heap.size w8 (HZ6.out _ k8) (Nat.le_trans h26 k8.size) (by rw [zipH_len]; omega)).mono ?_
      rintro e w9 ⟨v9, M, rfl, hO9, hL9, _, hb9⟩
      obtain ⟨A9, c9, rfl, _, _⟩ := (Rd.of_own hO9).form
      have k9 := k8.trans (hb9.mono k8.size)
      have hsa := sameSt_any L M A8 A9 _ c8 _ c9 w9.heap.size w9 (((Rd.of_own HO8.out).below' hb9 (Nat.le_refl _)).more hb9.size) (Rd.of_own hO9)
      rw [decide_eq_true (hL8.same hL9)] at hsa
      have HSA := Lib.hid hsa
      clear hO9 hsa hL8 hL9 hb8' hb9 HO8
      go_wp2_with fail
      refine HSA.out.mono ?_
      rintro e w10 ⟨rfl, hg10⟩
      have k10 := k9.trans (hg10.below.mono k9.size)
      obtain ⟨y0, y1, y2, y3⟩ := HY.out w10 k10
      have hF := (HB0.out.trans (hk5.mono (Nat.le_of_lt HSZ.out))).trans (k10.mono (Nat.le_trans (Nat.le_of_lt HSZ.out) hk5.size))
      have HF := Lib.hid hF
      have hq := eql24
      have hgd := gd24
      have hE := eq2_iff y y
      rw [decide_eq_true rfl] at hE
      clear hF hg10 k7 k8 k9 k10 HSA
      go_wp2
      go_ret
      exact ⟨rfl, HF.out⟩
    · go_enter Try.func7, Try.ntmps7
      go_wp2_with fail
      rw [HW.out]
      refine (eawake_any w1).mono ?_
      rintro e w2 ⟨rfl, hb2⟩
      have HF := Lib.hid (HB0.out.trans (hb2.mono (by have := HSZ.out; omega)))
      clear hb2
      go_wp2
      go_ret
      exact ⟨rfl, HF.out⟩
  · go_enter Try.func7, Try.ntmps7
    go_wp2_with fail
    rw [HW.out]
    refine (eawake_any w1).mono ?_
    rintro e w2 ⟨rfl, hb2⟩
    have HF := Lib.hid (HB0.out.trans (hb2.mono (by have := HSZ.out; omega)))
    clear hb2
    go_wp2
    go_ret
    exact ⟨rfl, HF.out⟩
end Go.Proofs.Ytejafcdlkpmemaa
