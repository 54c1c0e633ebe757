/- The law PlaceWithins, walked. -/
import Derived.Test.YtejafcdlkpmemaaPE
import Derived.Test.YtejafcdlkpmemaaPH
namespace Go.Proofs.Ytejafcdlkpmemaa
open Go Go.RowKit Go.Maps Go.Shelf
set_option maxRecDepth 100000 in
set_option maxHeartbeats 4000000 in
theorem withins_walk (L : List Place) (x up : Id) (A : Option Addr) (n c : Nat) (w : World) (hR : Rd w w.heap.size 8 (.slice A n c) n (L.flatMap plC)) :
    Calls Try.prog 13 #[.slice A n c, idV x, idV up] w fun e w' => e = .returned (.bool true) ∧ Below w.heap.size w w' := by
  obtain ⟨w0, hw0⟩ : ∃ W, (w.alloc (.cells #[.int .i64 x.s.T, .int .i64 x.s.R, .int .i64 x.I] 26)).alloc (.cells #[.int .i64 up.s.T, .int .i64 up.s.R, .int .i64 up.I] 26) = W := ⟨_, rfl⟩
  have hg0 : Grows w w0 := by rw [← hw0]; exact ((Grows.refl w).alloc _).alloc _
  have hx0 : w0.heap[w.heap.size]? = some (.cells #[.int .i64 x.s.T, .int .i64 x.s.R, .int .i64 x.I] 26 (0, 0)) := by rw [← hw0]; exact (Below.heap_alloc _ _ _ (by simp)).trans (heap_alloc_new w _)
  have hu0 : w0.heap[w.heap.size + 1]? = some (.cells #[.int .i64 up.s.T, .int .i64 up.s.R, .int .i64 up.I] 26 (0, 0)) := by
    rw [← hw0]
    have := heap_alloc_new (w.alloc (.cells #[.int .i64 x.s.T, .int .i64 x.s.R, .int .i64 x.I] 26)) (.cells #[.int .i64 up.s.T, .int .i64 up.s.R, .int .i64 up.I] 26)
    rwa [World.size_alloc] at this
  have hsz : w.heap.size + 1 < w0.heap.size := (Array.getElem?_eq_some_iff.1 hu0).1
  have hb0 := hg0.below
  have HR := Lib.hid (fun W (hb : Below w0.heap.size w0 W) => (hR.below' hb0 (Nat.le_refl _)).below' hb (by omega))
  have HW := Lib.hid hw0
  have HB0 := Lib.hid hb0
  have HSZ := Lib.hid hsz
  have hal := len_of plC 8 (fun _ => rfl) (by decide) hR.1
  subst hal
  clear hR hw0 hg0 hb0
  obtain ⟨R, hRe⟩ : ∃ R, withinGo L (L.length + 1) x up = R := ⟨_, rfl⟩
  have HX := Lib.hid (fun W' (hW : Below w0.heap.size w0 W') => (show W'.cell? ⟨w.heap.size, 0, none⟩ = some (.int .i64 x.s.T) ∧ W'.cell? ⟨w.heap.size, 1, none⟩ = some (.int .i64 x.s.R) ∧ W'.cell? ⟨w.heap.size, 2, none⟩ = some (.int .i64 x.I) ∧ W'.cell? ⟨w.heap.size + 1, 0, none⟩ = some (.int .i64 up.s.T) ∧ W'.cell? ⟨w.heap.size + 1, 1, none⟩ = some (.int .i64 up.s.R) ∧ W'.cell? ⟨w.heap.size + 1, 2, none⟩ = some (.int .i64 up.I) from
    ⟨(hW.cell (p := ⟨w.heap.size, 0, none⟩) (show w.heap.size < _ by omega)).trans (cell_of_row _ _ 0 _ _ _ hx0), (hW.cell (p := ⟨w.heap.size, 1, none⟩) (show w.heap.size < _ by omega)).trans (cell_of_row _ _ 1 _ _ _ hx0), (hW.cell (p := ⟨w.heap.size, 2, none⟩) (show w.heap.size < _ by omega)).trans (cell_of_row _ _ 2 _ _ _ hx0), (hW.cell (p := ⟨w.heap.size + 1, 0, none⟩) hsz).trans (cell_of_row _ _ 0 _ _ _ hu0), (hW.cell (p := ⟨w.heap.size + 1, 1, none⟩) hsz).trans (cell_of_row _ _ 1 _ _ _ hu0), (hW.cell (p := ⟨w.heap.size + 1, 2, none⟩) hsz).trans (cell_of_row _ _ 2 _ _ _ hu0)⟩))
  clear hx0 hu0 hsz
  by_cases hn : L.length ≤ 80
  · have HP := Lib.hid (fun W (hb : Below w0.heap.size w0 W) => (show Calls Try.prog 41 #[.slice A L.length c, idV x, idV up] W (fun e w' => e = .returned (.bool R) ∧ Below W.heap.size W w') from hRe ▸ pwithin_any L x up A _ c w.heap.size W (HR.out W hb) (by have := hb.size; have := HSZ.out; omega) (by omega)))
    have HQ := Lib.hid (fun W (hb : Below w0.heap.size w0 W) => (show Calls Try.prog 42 #[.slice A L.length c, idV x, idV up] W (fun e w' => e = .returned (.bool R) ∧ Below W.heap.size W w') from hRe ▸ rwithin_any L x up A _ c w.heap.size W (HR.out W hb) (by have := hb.size; have := HSZ.out; omega) (by omega)))
    unfold idV at HP HQ ⊢
    clear hRe
    go_enter Try.func13, Try.ntmps13
    go_wp2_with fail
    rw [HW.out]
    obtain ⟨bx, hbx⟩ : ∃ k, w.heap.size = k := ⟨_, rfl⟩
    obtain ⟨bu, hbu⟩ : ∃ k, w.heap.size + 1 = k := ⟨_, rfl⟩
    rw [hbu] at HX ⊢
    rw [hbx] at HX ⊢
    have HBX := Lib.hid hbx
    clear hbx hbu
    have k1 : Below w0.heap.size w0 w0.drew := (Below.refl _ w0).drew
    have ha := fun W => pawake_any W
    have HA := Lib.hid ha
    clear ha
    go_region_held3 (fun W' => W'.cell? ⟨bx, 0, none⟩ = some (.int .i64 x.s.T) ∧ W'.cell? ⟨bx, 1, none⟩ = some (.int .i64 x.s.R) ∧ W'.cell? ⟨bx, 2, none⟩ = some (.int .i64 x.I) ∧ W'.cell? ⟨bu, 0, none⟩ = some (.int .i64 up.s.T) ∧ W'.cell? ⟨bu, 1, none⟩ = some (.int .i64 up.s.R) ∧ W'.cell? ⟨bu, 2, none⟩ = some (.int .i64 up.I))
      (first | exact HX.out _ (by assumption) | go_keep)
      (first
        | (go_at_call 37; refine (HA.out _).mono ?_; rintro e w2 ⟨rfl, hb2⟩; have k2 := k1.trans (hb2.mono k1.size); clear hb2)
        | (go_at_call 41; refine (HP.out _ k2).mono ?_; rintro e w3 ⟨rfl, hb3⟩; have k3 := k2.trans (hb3.mono k2.size); clear hb3)
        | (go_at_call 42; refine (HQ.out _ k3).mono ?_; rintro e w4 ⟨rfl, hb4⟩; have k4 := k3.trans (hb4.mono k3.size); clear hb4))
    have HF := Lib.hid (HB0.out.trans (k4.mono HB0.out.size))
    clear k1 k2 k3 k4
    go_wp2
    go_ret
    exact ⟨rfl, HF.out⟩
  · unfold idV
    clear hRe
    go_enter Try.func13, Try.ntmps13
    go_wp2_with fail
    rw [HW.out]
    refine (pawake_any w0).mono ?_
    rintro e w2 ⟨rfl, hb2⟩
    have HF := Lib.hid (HB0.out.trans (hb2.mono HB0.out.size))
    clear hb2
    go_wp2
    go_ret
    exact ⟨rfl, HF.out⟩
end Go.Proofs.Ytejafcdlkpmemaa
