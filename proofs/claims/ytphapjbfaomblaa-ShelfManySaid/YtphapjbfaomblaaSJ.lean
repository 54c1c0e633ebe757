/- The law's awake. -/
import Derived.Test.YtphapjbfaomblaaSI
import Derived.Deep.RegionHeld3
namespace Go.Proofs.Ytphapjbfaomblaa
open Go Go.RowKit Go.Maps
theorem put1 {w0 w : World} {sb : Nat} (h : Aw w0 sb [] w) : Calls Try.prog 9 #[.pointer (some ⟨sb, 0, none⟩), .int .i64 0, .agg #[.int .i64 1, .int .i64 1, .int .i64 1], .bool true] w fun e w' => e = .returned (.int .i64 0) ∧ Aw w0 sb [(j1, true)] w' :=
  (h.put (by decide) 0 j1 true).mono (fun e w' hh => ⟨hh.1, q1 ▸ hh.2.1⟩)
theorem put2 {w0 w : World} {sb : Nat} (h : Aw w0 sb [(j1, true)] w) : Calls Try.prog 9 #[.pointer (some ⟨sb, 0, none⟩), .int .i64 0, .agg #[.int .i64 1, .int .i64 1, .int .i64 2], .bool false] w fun e w' => e = .returned (.int .i64 0) ∧ Aw w0 sb [(j2, false), (j1, true)] w' :=
  (h.put (by decide) 0 j2 false).mono (fun e w' hh => ⟨hh.1, q2 ▸ hh.2.1⟩)
def r3 : Row Id := [(j2, false), (j3, true), (j1, true)]
theorem put3 {w0 w : World} {sb : Nat} (h : Aw w0 sb [(j2, false), (j1, true)] w) : Calls Try.prog 9 #[.pointer (some ⟨sb, 0, none⟩), .int .i64 1, .agg #[.int .i64 1, .int .i64 1, .int .i64 3], .bool true] w fun e w' => e = .returned (.int .i64 0) ∧ Aw w0 sb r3 w' :=
  (h.put (by decide) 1 j3 true).mono (fun e w' hh => ⟨by rw [hh.1, e3], by have := hh.2.1; rw [q3] at this; exact this⟩)
theorem put4 {w : World} {F : Nat → Prop} {sb : Nat} (h : ShelfAt w F sb r3) : Calls Try.prog 9 #[.pointer (some ⟨sb, 0, none⟩), .int .i64 0, .agg #[.int .i64 1, .int .i64 1, .int .i64 1], .bool true] w fun e w' => e = .returned (.int .i64 110) ∧ Touch F w w' :=
  (put_any h (by decide) 0 j1 true).mono (fun e w' hh => by
    obtain ⟨h1, F', h2, h3, h4⟩ := hh
    exact ⟨by rw [h1, r3, e4], h3⟩)
theorem find3 {w0 w : World} {sb : Nat} (h : Aw w0 sb r3 w) : Calls Try.prog 14 #[.pointer (some ⟨sb, 0, none⟩), .int .i64 0] w fun e w' => e = .returned (.tuple #[.agg #[.int .i64 1, .int .i64 1, .int .i64 3], .int .i64 0]) ∧ Aw w0 sb r3 w' :=
  (h.find (by decide) 0).mono (fun e w' hh => ⟨by rw [hh.1, r3, g3]; rfl, hh.2.1⟩)
theorem place3 {w0 w : World} {sb : Nat} (h : Aw w0 sb r3 w) : Calls Try.prog 13 #[.pointer (some ⟨sb, 0, none⟩), .agg #[.int .i64 1, .int .i64 1, .int .i64 1]] w fun e w' => e = .returned (.tuple #[.int .i64 2, .int .i64 1, .int .i64 0]) ∧ Aw w0 sb r3 w' ∧ Below w.heap.size w w' :=
  (h.place (by decide) j1).mono (fun e w' hh => ⟨by rw [hh.1, r3, l3], hh.2⟩)
theorem all3 {w : World} {F : Nat → Prop} {sb : Nat} (h : ShelfAt w F sb r3) : Calls Try.prog 8 #[.pointer (some ⟨sb, 0, none⟩)] w fun e w' => e = .returned (.int .i64 3) ∧ w' = w := all_at h
theorem count3 {w : World} {F : Nat → Prop} {sb : Nat} (h : ShelfAt w F sb r3) : Calls Try.prog 12 #[.pointer (some ⟨sb, 0, none⟩)] w fun e w' => e = .returned (.int .i64 2) ∧ w' = w := count_at h
set_option maxRecDepth 100000 in
set_option maxHeartbeats 1000000 in
theorem awake_any (w : World) : Calls Try.prog 6 #[] w fun e w' => e = .returned (.bool true) ∧ Below w.heap.size w w' := by
  go_enter Try.func6, Try.ntmps6
  go_wp2_with (first
    | (go_at_call 7; refine (Aw.new w).mono ?_; rintro e w1 ⟨sb, rfl, h1⟩)
    | (go_at_call 10; refine (id_at _ _).mono ?_; rintro e wx ⟨rfl, gx⟩; first | (have h9 := (h8.alloc _).below gx.below; have hc9 := (gx.below.block w8.heap.size (by rw [World.size_alloc]; exact Nat.lt_succ_self _)).trans (heap_alloc_new w8 _)) | (have h6 := h5.below gx.below) | (have h4 := h3.below gx.below) | (have h2 := h1.below gx.below))
    | (go_at_call 9; refine (put3 h6).mono ?_; rintro e w7 ⟨rfl, h7⟩)
    | (go_at_call 9; refine (put2 h4).mono ?_; rintro e w5 ⟨rfl, h5⟩)
    | (go_at_call 9; refine (put1 h2).mono ?_; rintro e w3 ⟨rfl, h3⟩)
    | (go_at_call 14; refine (find3 h7).mono ?_; rintro e w8 ⟨rfl, h8⟩; have H8 := Lib.hid h8)
    | (go_at_call 13; refine (place3 h9).mono ?_; rintro e wp ⟨rfl, h10, hb10⟩; have hc10 := (hb10.block w8.heap.size (Array.getElem?_eq_some_iff.1 hc9).1).trans hc9))
  have d0 : wp.cell? ⟨w8.heap.size, 0, none⟩ = some (.int .i64 1) := cell_of_row _ _ 0 _ _ _ hc10
  have d1 : wp.cell? ⟨w8.heap.size, 1, none⟩ = some (.int .i64 1) := cell_of_row _ _ 1 _ _ _ hc10
  have d2 : wp.cell? ⟨w8.heap.size, 2, none⟩ = some (.int .i64 3) := cell_of_row _ _ 2 _ _ _ hc10
  have HC := Lib.hid hc10
  clear hc10 hc9
  have H10 := Lib.hid h10
  have hF : ∃ F : Nat → Prop, ShelfAt wp F sb r3 ∧ (∀ k, F k → w.heap.size ≤ k ∧ k < w8.heap.size) ∧ Below w.heap.size w wp := by
    obtain ⟨F, k1, k2, k3⟩ := H8.out
    have hk : Below w8.heap.size w8 wp := (((Below.refl _ w8).alloc (Nat.le_refl _) _).trans (gx.below.mono (by rw [World.size_alloc]; exact Nat.le_succ _))).trans (hb10.mono (by have := gx.below.size; rw [World.size_alloc] at this; omega))
    exact ⟨F, k1.below hk, fun k hk => ⟨k2 k hk, k1.choose_spec.choose_spec.choose_spec.choose_spec.choose_spec.2.2.2.1 k hk⟩, k3.trans (hk.mono k3.size)⟩
  obtain ⟨F, k1, k2, k3⟩ := hF
  have K1 := Lib.hid k1
  have K2 := Lib.hid k2
  have K3 := Lib.hid k3
  clear h1 h2 h3 h4 h5 h6 h7 h8 h9 h10 k1 k2 k3
  go_region_held3 (fun W' => W'.cell? ⟨w8.heap.size, 0, none⟩ = some (.int .i64 1) ∧ W'.cell? ⟨w8.heap.size, 1, none⟩ = some (.int .i64 1) ∧ W'.cell? ⟨w8.heap.size, 2, none⟩ = some (.int .i64 3))
    (first | exact ⟨d0, d1, d2⟩ | exact ⟨y0, y1, y2⟩ | exact ⟨z0, z1, z2⟩ | exact ⟨v0, v1, v2⟩)
    (first
      | (go_at_call 10
         refine (id_at _ _).mono ?_
         rintro e wy ⟨rfl, gy⟩
         first
          | (have h12 := h11.below gy.below
             have t12 : Below w.heap.size w wy := b11.trans (gy.below.mono b11.size)
             have hz := (gy.below.block w8.heap.size (Array.getElem?_eq_some_iff.1 hy).1).trans hy
             have z0 : wy.cell? ⟨w8.heap.size, 0, none⟩ = some (.int .i64 1) := cell_of_row _ _ 0 _ _ _ hz
             have z1 : wy.cell? ⟨w8.heap.size, 1, none⟩ = some (.int .i64 1) := cell_of_row _ _ 1 _ _ _ hz
             have z2 : wy.cell? ⟨w8.heap.size, 2, none⟩ = some (.int .i64 3) := cell_of_row _ _ 2 _ _ _ hz)
          | (have h11 := (K1.out.below (Below.refl _ wp).drew).below gy.below
             have b11 : Below w.heap.size w wy := K3.out.drew.trans (gy.below.mono K3.out.size)
             have hy := (gy.below.block w8.heap.size (show _ < wp.drew.heap.size from (Array.getElem?_eq_some_iff.1 HC.out).1)).trans HC.out
             have y0 : wy.cell? ⟨w8.heap.size, 0, none⟩ = some (.int .i64 1) := cell_of_row _ _ 0 _ _ _ hy
             have y1 : wy.cell? ⟨w8.heap.size, 1, none⟩ = some (.int .i64 1) := cell_of_row _ _ 1 _ _ _ hy
             have y2 : wy.cell? ⟨w8.heap.size, 2, none⟩ = some (.int .i64 3) := cell_of_row _ _ 2 _ _ _ hy))
      | (go_at_call 8; refine (all3 h11).mono ?_; rintro e wz ⟨rfl, rfl⟩)
      | (go_at_call 12; refine (count3 h11).mono ?_; rintro e wz ⟨rfl, rfl⟩)
      | (go_at_call 9; refine (put4 h12).mono ?_; rintro e wv ⟨rfl, hv⟩
         have hvv := block_touch hz hv (fun hh => Nat.lt_irrefl _ (K2.out _ hh).2)
         have bv : Below w.heap.size w wv := t12.trans (hv.below t12.size (fun x hx hF => absurd (K2.out x hF).1 (by omega)))
         have v0 : wv.cell? ⟨w8.heap.size, 0, none⟩ = some (.int .i64 1) := cell_of_row _ _ 0 _ _ _ hvv
         have v1 : wv.cell? ⟨w8.heap.size, 1, none⟩ = some (.int .i64 1) := cell_of_row _ _ 1 _ _ _ hvv
         have v2 : wv.cell? ⟨w8.heap.size, 2, none⟩ = some (.int .i64 3) := cell_of_row _ _ 2 _ _ _ hvv))
  all_goals (go_wp2_with fail; go_ret; exact ⟨rfl, bv⟩)
end Go.Proofs.Ytphapjbfaomblaa
