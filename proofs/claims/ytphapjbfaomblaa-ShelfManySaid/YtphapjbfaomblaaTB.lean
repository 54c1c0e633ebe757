/- The law's same: one act, done to both shelves. -/
import Derived.Test.YtphapjbfaomblaaTA
import Derived.Test.YtphapjbfaomblaaQI
namespace Go.Proofs.Ytphapjbfaomblaa
open Go Go.RowKit Go.Maps
structure Ac where
  what : Int
  at_ : Int
  x : Id
  q : Bool
def acC (a : Ac) : List Value := [.int .i64 a.what, .int .i64 a.at_, .int .i64 a.x.s.T, .int .i64 a.x.s.R, .int .i64 a.x.I, .bool a.q]
def SamePost (w0 : World) (sb rb : Nat) (R : Row Id) (e : Ending) (w' : World) : Prop := e = .returned (.bool true) ∧ ∃ R', Both w0 (fun _ => False) sb rb R' R' w' ∧ R'.length ≤ R.length + 1
def shE (R : Row Id) (x : Id) : Int := if x ∈ namesR R then 0 else 111
theorem Both.sshow' {w0 w : World} {P : Nat → Prop} {sb rb : Nat} {R S : Row Id} (h : Both w0 P sb rb R S w) (hl : R.length ≤ 100000) (x : Id) (q : Bool) : Calls Try.prog 21 #[.pointer (some ⟨sb, 0, none⟩), idV x, .bool q] w fun e w' => e = .returned (.int .i64 (shE R x)) ∧ Both w0 P sb rb (shV R x q) S w' ∧ Touch (fun k => ¬ P k ∧ k ≠ rb) w w' := h.sshow hl x q
theorem Both.rshow' {w0 w : World} {P : Nat → Prop} {sb rb : Nat} {R S : Row Id} (h : Both w0 P sb rb R S w) (x : Id) (q : Bool) : Calls Try.prog 22 #[.pointer (some ⟨rb, 0, none⟩), idV x, .bool q] w fun e w' => e = .returned (.int .i64 (shE S x)) ∧ Both w0 P sb rb R (shV S x q) w' ∧ Touch (fun k => ¬ P k) w w' := h.rshow x q
theorem sameId_self (L : List Id) (A A' : Option Addr) (n c n' c' B : Nat) (w : World) (hR : Rd w B 3 (.slice A n c) n (L.flatMap idC)) (hR' : Rd w B 3 (.slice A' n' c') n' (L.flatMap idC)) :
    Calls Try.prog 16 #[.slice A n c, .slice A' n' c'] w fun e w' => e = .returned (.bool true) ∧ Grows w w' :=
  (sameId_any L L A A' n c n' c' B w hR hR').mono (fun e w' h => ⟨by rw [h.1, decide_eq_true rfl], h.2⟩)
set_option maxRecDepth 100000 in
set_option maxHeartbeats 4000000 in
theorem same_put {w0 w : World} {sb rb : Nat} {R : Row Id} (h : Both w0 (fun _ => False) sb rb R R w) (hl : R.length ≤ 9000) (wh at_ : Int) (x : Id) (q : Bool) (hk : bits .and .i64 wh 15 < 8) :
    Calls Try.prog 15 #[.pointer (some ⟨sb, 0, none⟩), .pointer (some ⟨rb, 0, none⟩), .agg #[.int .i64 wh, .int .i64 at_, .int .i64 x.s.T, .int .i64 x.s.R, .int .i64 x.I, .bool q]] w (SamePost w0 sb rb R) := by
  obtain ⟨W0, hW0⟩ : ∃ W, w.alloc (.cells #[.int .i64 wh, .int .i64 at_, .int .i64 x.s.T, .int .i64 x.s.R, .int .i64 x.I, .bool q] 49) = W := ⟨_, rfl⟩
  have hb0 : Both w0 (fun k => k = w.heap.size) sb rb R R W0 := by rw [← hW0]; exact h.box _
  have hx0 : W0.heap[w.heap.size]? = some (.cells #[.int .i64 wh, .int .i64 at_, .int .i64 x.s.T, .int .i64 x.s.R, .int .i64 x.I, .bool q] 49 (0, 0)) := by rw [← hW0]; exact heap_alloc_new w _
  obtain ⟨bx, hbx⟩ : ∃ z, w.heap.size = z := ⟨_, rfl⟩
  rw [hbx] at hb0 hx0
  have HSx := Lib.hid (fun W (hW : Touch (fun k => ¬ k = bx) W0 W) => (show W.cell? ⟨bx, 1, none⟩ = some (.int .i64 at_) ∧ W.cell? ⟨bx, 2, none⟩ = some (.int .i64 x.s.T) ∧ W.cell? ⟨bx, 3, none⟩ = some (.int .i64 x.s.R) ∧ W.cell? ⟨bx, 4, none⟩ = some (.int .i64 x.I) ∧ W.cell? ⟨bx, 5, none⟩ = some (.bool q) from by
    have hh := block_touch hx0 hW (fun h => h rfl)
    exact ⟨cell_of_row _ _ 1 _ _ _ hh, cell_of_row _ _ 2 _ _ _ hh, cell_of_row _ _ 3 _ _ _ hh, cell_of_row _ _ 4 _ _ _ hh, cell_of_row _ _ 5 _ _ _ hh⟩))
  have HW0 := Lib.hid hW0
  have HBX := Lib.hid hbx
  have HB0 := Lib.hid hb0
  have t0 : Touch (fun k => ¬ k = bx) W0 W0 := Touch.refl _ _
  have t1 : Touch (fun k => ¬ k = bx) W0 W0.drew := t0.drew
  obtain ⟨e1, e2, e3, e4, e5⟩ := HSx.out W0 t0
  have hk2 : bits .and .i64 wh 15 < 8 := hk
  have hk1 : ¬ 14 ≤ bits .and .i64 wh 15 := by omega
  have HSP := Lib.hid (fun W (hW : Both w0 (fun k => k = bx) sb rb R R W) => hW.sput (by omega) at_ x q)
  have HRP := Lib.hid (fun W (hW : Both w0 (fun k => k = bx) sb rb (putV R at_ x q) R W) => hW.rput (by omega) at_ x q)
  unfold idV at HSP HRP
  clear hW0 hb0 hx0 hbx h
  go_enter Try.func15, Try.ntmps15
  go_wp2
  rw [HW0.out, HBX.out]
  go_region_held3 (fun W' => W'.cell? ⟨bx, 1, none⟩ = some (.int .i64 at_) ∧ W'.cell? ⟨bx, 2, none⟩ = some (.int .i64 x.s.T) ∧ W'.cell? ⟨bx, 3, none⟩ = some (.int .i64 x.s.R) ∧ W'.cell? ⟨bx, 4, none⟩ = some (.int .i64 x.I) ∧ W'.cell? ⟨bx, 5, none⟩ = some (.bool q))
    (first | exact HSx.out _ (by assumption) | go_keep)
    (first
      | (go_at_call 18; refine (HRP.out _ hb5).mono ?_; rintro e w6 ⟨rfl, hb6, t6⟩; have t7 := t5.trans t6 (fun _ _ h => h))
      | (go_at_call 9; refine (HSP.out _ HB0.out.drew).mono ?_; rintro e w5 ⟨rfl, hb5, t4⟩; have t5 := t1.trans t4 (fun _ _ h => h.1)))
  go_wp2
  go_ret
  exact ⟨rfl, _, hb6.open, putV_len _ _ _ _⟩
set_option maxRecDepth 100000 in
set_option maxHeartbeats 4000000 in
theorem same_show {w0 w : World} {sb rb : Nat} {R : Row Id} (h : Both w0 (fun _ => False) sb rb R R w) (hl : R.length ≤ 9000) (wh at_ : Int) (x : Id) (q : Bool) (hk : 8 ≤ bits .and .i64 wh 15 ∧ bits .and .i64 wh 15 < 11) :
    Calls Try.prog 15 #[.pointer (some ⟨sb, 0, none⟩), .pointer (some ⟨rb, 0, none⟩), .agg #[.int .i64 wh, .int .i64 at_, .int .i64 x.s.T, .int .i64 x.s.R, .int .i64 x.I, .bool q]] w (SamePost w0 sb rb R) := by
  obtain ⟨W0, hW0⟩ : ∃ W, w.alloc (.cells #[.int .i64 wh, .int .i64 at_, .int .i64 x.s.T, .int .i64 x.s.R, .int .i64 x.I, .bool q] 49) = W := ⟨_, rfl⟩
  have hb0 : Both w0 (fun k => k = w.heap.size) sb rb R R W0 := by rw [← hW0]; exact h.box _
  have hx0 : W0.heap[w.heap.size]? = some (.cells #[.int .i64 wh, .int .i64 at_, .int .i64 x.s.T, .int .i64 x.s.R, .int .i64 x.I, .bool q] 49 (0, 0)) := by rw [← hW0]; exact heap_alloc_new w _
  obtain ⟨bx, hbx⟩ : ∃ z, w.heap.size = z := ⟨_, rfl⟩
  rw [hbx] at hb0 hx0
  have HSx := Lib.hid (fun W (hW : Touch (fun k => ¬ k = bx) W0 W) => (show W.cell? ⟨bx, 1, none⟩ = some (.int .i64 at_) ∧ W.cell? ⟨bx, 2, none⟩ = some (.int .i64 x.s.T) ∧ W.cell? ⟨bx, 3, none⟩ = some (.int .i64 x.s.R) ∧ W.cell? ⟨bx, 4, none⟩ = some (.int .i64 x.I) ∧ W.cell? ⟨bx, 5, none⟩ = some (.bool q) from by
    have hh := block_touch hx0 hW (fun h => h rfl)
    exact ⟨cell_of_row _ _ 1 _ _ _ hh, cell_of_row _ _ 2 _ _ _ hh, cell_of_row _ _ 3 _ _ _ hh, cell_of_row _ _ 4 _ _ _ hh, cell_of_row _ _ 5 _ _ _ hh⟩))
  have HW0 := Lib.hid hW0
  have HBX := Lib.hid hbx
  have HB0 := Lib.hid hb0
  have t0 : Touch (fun k => ¬ k = bx) W0 W0 := Touch.refl _ _
  have t1 : Touch (fun k => ¬ k = bx) W0 W0.drew := t0.drew
  obtain ⟨e1, e2, e3, e4, e5⟩ := HSx.out W0 t0
  have hk1 : ¬ 14 ≤ bits .and .i64 wh 15 := by omega
  have hk2 : ¬ bits .and .i64 wh 15 < 8 := by omega
  have hk3 : bits .and .i64 wh 15 < 11 := by omega
  have HSP := Lib.hid (fun W (hW : Both w0 (fun k => k = bx) sb rb R R W) => hW.sshow' (by omega) x q)
  have HRP := Lib.hid (fun W (hW : Both w0 (fun k => k = bx) sb rb (shV R x q) R W) => hW.rshow' x q)
  unfold idV at HSP HRP
  clear hW0 hb0 hx0 hbx h
  go_enter Try.func15, Try.ntmps15
  go_wp2
  rw [HW0.out, HBX.out]
  go_region_held3 (fun W' => W'.cell? ⟨bx, 1, none⟩ = some (.int .i64 at_) ∧ W'.cell? ⟨bx, 2, none⟩ = some (.int .i64 x.s.T) ∧ W'.cell? ⟨bx, 3, none⟩ = some (.int .i64 x.s.R) ∧ W'.cell? ⟨bx, 4, none⟩ = some (.int .i64 x.I) ∧ W'.cell? ⟨bx, 5, none⟩ = some (.bool q))
    (first | exact HSx.out _ (by assumption) | go_keep)
    (first
      | (go_at_call 22; refine (HRP.out _ hb5).mono ?_; rintro e w6 ⟨rfl, hb6, t6⟩; have t7 := t5.trans t6 (fun _ _ h => h))
      | (go_at_call 21; refine (HSP.out _ HB0.out.drew).mono ?_; rintro e w5 ⟨rfl, hb5, t4⟩; have t5 := t1.trans t4 (fun _ _ h => h.1)))
  go_wp2
  go_ret
  exact ⟨rfl, _, hb6.open, by rw [shV_len]; omega⟩
set_option maxRecDepth 100000 in
set_option maxHeartbeats 4000000 in
theorem same_list {w0 w : World} {sb rb : Nat} {R : Row Id} (h : Both w0 (fun _ => False) sb rb R R w) (hl : R.length ≤ 9000) (wh at_ : Int) (x : Id) (q : Bool) (hk : bits .and .i64 wh 15 = 13) :
    Calls Try.prog 15 #[.pointer (some ⟨sb, 0, none⟩), .pointer (some ⟨rb, 0, none⟩), .agg #[.int .i64 wh, .int .i64 at_, .int .i64 x.s.T, .int .i64 x.s.R, .int .i64 x.I, .bool q]] w (SamePost w0 sb rb R) := by
  obtain ⟨W0, hW0⟩ : ∃ W, w.alloc (.cells #[.int .i64 wh, .int .i64 at_, .int .i64 x.s.T, .int .i64 x.s.R, .int .i64 x.I, .bool q] 49) = W := ⟨_, rfl⟩
  have hb0 : Both w0 (fun k => k = w.heap.size) sb rb R R W0 := by rw [← hW0]; exact h.box _
  have hx0 : W0.heap[w.heap.size]? = some (.cells #[.int .i64 wh, .int .i64 at_, .int .i64 x.s.T, .int .i64 x.s.R, .int .i64 x.I, .bool q] 49 (0, 0)) := by rw [← hW0]; exact heap_alloc_new w _
  obtain ⟨bx, hbx⟩ : ∃ z, w.heap.size = z := ⟨_, rfl⟩
  rw [hbx] at hb0 hx0
  have HSx := Lib.hid (fun W (hW : Touch (fun k => ¬ k = bx) W0 W) => (show W.cell? ⟨bx, 1, none⟩ = some (.int .i64 at_) ∧ W.cell? ⟨bx, 2, none⟩ = some (.int .i64 x.s.T) ∧ W.cell? ⟨bx, 3, none⟩ = some (.int .i64 x.s.R) ∧ W.cell? ⟨bx, 4, none⟩ = some (.int .i64 x.I) ∧ W.cell? ⟨bx, 5, none⟩ = some (.bool q) from by
    have hh := block_touch hx0 hW (fun h => h rfl)
    exact ⟨cell_of_row _ _ 1 _ _ _ hh, cell_of_row _ _ 2 _ _ _ hh, cell_of_row _ _ 3 _ _ _ hh, cell_of_row _ _ 4 _ _ _ hh, cell_of_row _ _ 5 _ _ _ hh⟩))
  have HW0 := Lib.hid hW0
  have HBX := Lib.hid hbx
  have HB0 := Lib.hid hb0
  have t0 : Touch (fun k => ¬ k = bx) W0 W0 := Touch.refl _ _
  have t1 : Touch (fun k => ¬ k = bx) W0 W0.drew := t0.drew
  obtain ⟨e1, e2, e3, e4, e5⟩ := HSx.out W0 t0
  have hk1 : ¬ 14 ≤ bits .and .i64 wh 15 := by omega
  have hk2 : ¬ bits .and .i64 wh 15 < 8 := by omega
  have hk3 : ¬ bits .and .i64 wh 15 < 11 := by omega
  have hk4 : ¬ bits .and .i64 wh 15 = 11 := by omega
  have hk5 : ¬ bits .and .i64 wh 15 = 12 := by omega
  obtain ⟨Ai, ci, vs, hcr, _⟩ := hb0.rlen
  have hrl : rb < W0.heap.size := (Array.getElem?_eq_some_iff.1 hcr).1
  have hxl : bx < W0.heap.size := (Array.getElem?_eq_some_iff.1 hx0).1
  have HSy := Lib.hid (fun W (hW : Below W0.heap.size W0 W) => (show W.cell? ⟨bx, 5, none⟩ = some (.bool q) ∧ W.cell? ⟨rb, 0, none⟩ = some (.slice Ai R.length ci) from
    ⟨(hW.cell (p := ⟨bx, 5, none⟩) hxl).trans e5, (hW.cell (p := ⟨rb, 0, none⟩) hrl).trans (cell_of_row _ _ 0 _ _ _ hcr)⟩))
  obtain ⟨_, f0⟩ := HSy.out W0 (Below.refl _ _)
  have k1 : Below W0.heap.size W0 W0.drew := (Below.refl _ W0).drew
  clear hcr e1 e2 e3 e4 t0 t1 hrl hxl
  clear hW0 hb0 hx0 hbx h
  go_enter Try.func15, Try.ntmps15
  go_wp2
  rw [HW0.out, HBX.out]
  go_region_held3 (fun W' => W'.cell? ⟨bx, 5, none⟩ = some (.bool q) ∧ W'.cell? ⟨rb, 0, none⟩ = some (.slice Ai R.length ci))
    (first | exact HSy.out _ (by assumption) | go_keep)
    (first
      | (go_at_call 16; refine (sameId_self (listR R q) A1 A2 _ c1 _ c2 w6.heap.size w6 (hR5.below' hb6b (Nat.le_refl _) |>.more hb6b.size) hR6).mono ?_; rintro e w7 ⟨rfl, g7⟩; have k4 := k3.trans (g7.below.mono k3.size))
      | (go_at_call 17; refine (hb5.rlist (by omega) q).mono ?_; rintro e w6 ⟨A2, c2, rfl, hR6, hb6, hb6b⟩; have k3 := k2.trans (hb6b.mono k2.size))
      | (go_at_call 11; refine (HB0.out.drew.slist (by omega) q).mono ?_; rintro e w5 ⟨A1, c1, rfl, hR5, hb5, hb5b⟩; have k2 := k1.trans (hb5b.mono k1.size))
      | (go_at_call 23; refine (HB0.out.drew.rcount).mono ?_; rintro e wz ⟨rfl, rfl⟩)
      | (go_at_call 12; refine (HB0.out.drew.scount).mono ?_; rintro e wz ⟨rfl, rfl⟩)
      | (go_at_call 8; refine (HB0.out.drew.sall).mono ?_; rintro e wz ⟨rfl, rfl⟩))
  go_wp2
  go_ret
  exact ⟨rfl, _, (hb6.below g7.below).open, Nat.le_succ _⟩
set_option maxRecDepth 100000 in
set_option maxHeartbeats 4000000 in
theorem same_find {w0 w : World} {sb rb : Nat} {R : Row Id} (h : Both w0 (fun _ => False) sb rb R R w) (hl : R.length ≤ 9000) (wh at_ : Int) (x : Id) (q : Bool) (hk : bits .and .i64 wh 15 = 11) :
    Calls Try.prog 15 #[.pointer (some ⟨sb, 0, none⟩), .pointer (some ⟨rb, 0, none⟩), .agg #[.int .i64 wh, .int .i64 at_, .int .i64 x.s.T, .int .i64 x.s.R, .int .i64 x.I, .bool q]] w (SamePost w0 sb rb R) := by
  obtain ⟨W0, hW0⟩ : ∃ W, w.alloc (.cells #[.int .i64 wh, .int .i64 at_, .int .i64 x.s.T, .int .i64 x.s.R, .int .i64 x.I, .bool q] 49) = W := ⟨_, rfl⟩
  have hb0 : Both w0 (fun k => k = w.heap.size) sb rb R R W0 := by rw [← hW0]; exact h.box _
  have hx0 : W0.heap[w.heap.size]? = some (.cells #[.int .i64 wh, .int .i64 at_, .int .i64 x.s.T, .int .i64 x.s.R, .int .i64 x.I, .bool q] 49 (0, 0)) := by rw [← hW0]; exact heap_alloc_new w _
  obtain ⟨bx, hbx⟩ : ∃ z, w.heap.size = z := ⟨_, rfl⟩
  rw [hbx] at hb0 hx0
  have HSx := Lib.hid (fun W (hW : Touch (fun k => ¬ k = bx) W0 W) => (show W.cell? ⟨bx, 1, none⟩ = some (.int .i64 at_) ∧ W.cell? ⟨bx, 2, none⟩ = some (.int .i64 x.s.T) ∧ W.cell? ⟨bx, 3, none⟩ = some (.int .i64 x.s.R) ∧ W.cell? ⟨bx, 4, none⟩ = some (.int .i64 x.I) ∧ W.cell? ⟨bx, 5, none⟩ = some (.bool q) from by
    have hh := block_touch hx0 hW (fun h => h rfl)
    exact ⟨cell_of_row _ _ 1 _ _ _ hh, cell_of_row _ _ 2 _ _ _ hh, cell_of_row _ _ 3 _ _ _ hh, cell_of_row _ _ 4 _ _ _ hh, cell_of_row _ _ 5 _ _ _ hh⟩))
  have HW0 := Lib.hid hW0
  have HBX := Lib.hid hbx
  have HB0 := Lib.hid hb0
  have t0 : Touch (fun k => ¬ k = bx) W0 W0 := Touch.refl _ _
  have t1 : Touch (fun k => ¬ k = bx) W0 W0.drew := t0.drew
  obtain ⟨e1, e2, e3, e4, e5⟩ := HSx.out W0 t0
  have hk1 : ¬ 14 ≤ bits .and .i64 wh 15 := by omega
  have hk2 : ¬ bits .and .i64 wh 15 < 8 := by omega
  have hk3 : ¬ bits .and .i64 wh 15 < 11 := by omega
  have HSP := Lib.hid (fun W (hW : Both w0 (fun k => k = bx) sb rb R R W) => hW.sfind (by omega) at_)
  have HRP := Lib.hid (fun W (hW : Both w0 (fun k => k = bx) sb rb R R W) => hW.rfind at_)
  obtain ⟨v, hv⟩ : ∃ v, findV R at_ = v := ⟨_, rfl⟩
  rw [hv] at HSP HRP
  obtain ⟨y, f⟩ := v
  dsimp only at HSP HRP
  unfold idV at HSP HRP
  have hq := eql26
  have hgd := gd26
  have hE : eq3 y.s.T y.s.R y.I y.s.T y.s.R y.I = true := by rw [eq3_iff]; simp
  have HS2 := Lib.hid (fun W (hW : Below W0.heap.size W0 W) => HSx.out W (Below.touch hW _))
  clear hv t0 t1
  clear hW0 hb0 hx0 hbx h
  go_enter Try.func15, Try.ntmps15
  go_wp2_with (first
    | (go_at_call 20; refine (HRP.out _ (hb5.alloc (.cells #[.int .i64 y.s.T, .int .i64 y.s.R, .int .i64 y.I] 33))).mono ?_; rintro e w6 ⟨rfl, hb6, b6⟩
       have hh := (b6.block w5.heap.size (by rw [World.size_alloc]; exact Nat.lt_succ_self _)).trans (heap_alloc_new w5 _)
       have hh2 := ((Below.refl w6.heap.size w6).alloc (Nat.le_refl _) (.cells #[.int .i64 y.s.T, .int .i64 y.s.R, .int .i64 y.I] 33) |>.block w5.heap.size (Array.getElem?_eq_some_iff.1 hh).1).trans hh
       have z0 : (w6.alloc (.cells #[.int .i64 y.s.T, .int .i64 y.s.R, .int .i64 y.I] 33)).cell? ⟨w5.heap.size, 0, none⟩ = some (.int .i64 y.s.T) := cell_of_row _ _ 0 _ _ _ hh2
       have z1 : (w6.alloc (.cells #[.int .i64 y.s.T, .int .i64 y.s.R, .int .i64 y.I] 33)).cell? ⟨w5.heap.size, 1, none⟩ = some (.int .i64 y.s.R) := cell_of_row _ _ 1 _ _ _ hh2
       have z2 : (w6.alloc (.cells #[.int .i64 y.s.T, .int .i64 y.s.R, .int .i64 y.I] 33)).cell? ⟨w5.heap.size, 2, none⟩ = some (.int .i64 y.I) := cell_of_row _ _ 2 _ _ _ hh2
       have HB6 := Lib.hid (hb6.alloc (.cells #[.int .i64 y.s.T, .int .i64 y.s.R, .int .i64 y.I] 33))
       clear hh hh2 b6 hb6)
    | (go_at_call 14; rw [HW0.out, HBX.out]; refine (HSP.out _ HB0.out).mono ?_; rintro e w5 ⟨rfl, hb5, b5⟩; obtain ⟨g1, _⟩ := HS2.out (w5.alloc (.cells #[.int .i64 y.s.T, .int .i64 y.s.R, .int .i64 y.I] 33)) (b5.alloc b5.size _)))
  go_ret
  exact ⟨rfl, _, HB6.out.open, Nat.le_succ _⟩
set_option maxRecDepth 100000 in
set_option maxHeartbeats 4000000 in
theorem same_place {w0 w : World} {sb rb : Nat} {R : Row Id} (h : Both w0 (fun _ => False) sb rb R R w) (hl : R.length ≤ 9000) (wh at_ : Int) (x : Id) (q : Bool) (hk : bits .and .i64 wh 15 = 12) :
    Calls Try.prog 15 #[.pointer (some ⟨sb, 0, none⟩), .pointer (some ⟨rb, 0, none⟩), .agg #[.int .i64 wh, .int .i64 at_, .int .i64 x.s.T, .int .i64 x.s.R, .int .i64 x.I, .bool q]] w (SamePost w0 sb rb R) := by
  obtain ⟨W0, hW0⟩ : ∃ W, w.alloc (.cells #[.int .i64 wh, .int .i64 at_, .int .i64 x.s.T, .int .i64 x.s.R, .int .i64 x.I, .bool q] 49) = W := ⟨_, rfl⟩
  have hb0 : Both w0 (fun k => k = w.heap.size) sb rb R R W0 := by rw [← hW0]; exact h.box _
  have hx0 : W0.heap[w.heap.size]? = some (.cells #[.int .i64 wh, .int .i64 at_, .int .i64 x.s.T, .int .i64 x.s.R, .int .i64 x.I, .bool q] 49 (0, 0)) := by rw [← hW0]; exact heap_alloc_new w _
  obtain ⟨bx, hbx⟩ : ∃ z, w.heap.size = z := ⟨_, rfl⟩
  rw [hbx] at hb0 hx0
  have HSx := Lib.hid (fun W (hW : Touch (fun k => ¬ k = bx) W0 W) => (show W.cell? ⟨bx, 1, none⟩ = some (.int .i64 at_) ∧ W.cell? ⟨bx, 2, none⟩ = some (.int .i64 x.s.T) ∧ W.cell? ⟨bx, 3, none⟩ = some (.int .i64 x.s.R) ∧ W.cell? ⟨bx, 4, none⟩ = some (.int .i64 x.I) ∧ W.cell? ⟨bx, 5, none⟩ = some (.bool q) from by
    have hh := block_touch hx0 hW (fun h => h rfl)
    exact ⟨cell_of_row _ _ 1 _ _ _ hh, cell_of_row _ _ 2 _ _ _ hh, cell_of_row _ _ 3 _ _ _ hh, cell_of_row _ _ 4 _ _ _ hh, cell_of_row _ _ 5 _ _ _ hh⟩))
  have HW0 := Lib.hid hW0
  have HBX := Lib.hid hbx
  have HB0 := Lib.hid hb0
  have t0 : Touch (fun k => ¬ k = bx) W0 W0 := Touch.refl _ _
  have t1 : Touch (fun k => ¬ k = bx) W0 W0.drew := t0.drew
  obtain ⟨e1, e2, e3, e4, e5⟩ := HSx.out W0 t0
  have hk1 : ¬ 14 ≤ bits .and .i64 wh 15 := by omega
  have hk2 : ¬ bits .and .i64 wh 15 < 8 := by omega
  have hk3 : ¬ bits .and .i64 wh 15 < 11 := by omega
  have hk4 : ¬ bits .and .i64 wh 15 = 11 := by omega
  have HSP := Lib.hid (fun W (hW : Both w0 (fun k => k = bx) sb rb R R W) => hW.splace (by omega) x)
  have HRP := Lib.hid (fun W (hW : Both w0 (fun k => k = bx) sb rb R R W) => hW.rplace x)
  obtain ⟨v, hv⟩ : ∃ v, placeV R x = v := ⟨_, rfl⟩
  rw [hv] at HSP HRP
  obtain ⟨y, z, f⟩ := v
  dsimp only at HSP HRP
  unfold idV at HSP HRP
  have HS2 := Lib.hid (fun W (hW : Below W0.heap.size W0 W) => HSx.out W (Below.touch hW _))
  clear hv t0 t1
  clear hW0 hb0 hx0 hbx h
  go_enter Try.func15, Try.ntmps15
  go_wp2_with (first
    | (go_at_call 19; refine (HRP.out _ hb5).mono ?_; rintro e w6 ⟨rfl, hb6, b6⟩)
    | (go_at_call 13; rw [HW0.out, HBX.out]; refine (HSP.out _ HB0.out).mono ?_; rintro e w5 ⟨rfl, hb5, b5⟩; obtain ⟨g1, g2, g3, g4, g5⟩ := HS2.out w5 b5))
  go_ret
  exact ⟨rfl, _, hb6.open, Nat.le_succ _⟩
set_option maxRecDepth 100000 in
set_option maxHeartbeats 4000000 in
theorem same_back {w0 w : World} {sb rb : Nat} {R : Row Id} (h : Both w0 (fun _ => False) sb rb R R w) (hl : R.length ≤ 9000) (wh at_ : Int) (x : Id) (q : Bool) (hk : 14 ≤ bits .and .i64 wh 15) :
    Calls Try.prog 15 #[.pointer (some ⟨sb, 0, none⟩), .pointer (some ⟨rb, 0, none⟩), .agg #[.int .i64 wh, .int .i64 at_, .int .i64 x.s.T, .int .i64 x.s.R, .int .i64 x.I, .bool q]] w (SamePost w0 sb rb R) := by
  obtain ⟨W0, hW0⟩ : ∃ W, w.alloc (.cells #[.int .i64 wh, .int .i64 at_, .int .i64 x.s.T, .int .i64 x.s.R, .int .i64 x.I, .bool q] 49) = W := ⟨_, rfl⟩
  have hb0 : Both w0 (fun k => k = w.heap.size) sb rb R R W0 := by rw [← hW0]; exact h.box _
  have hx0 : W0.heap[w.heap.size]? = some (.cells #[.int .i64 wh, .int .i64 at_, .int .i64 x.s.T, .int .i64 x.s.R, .int .i64 x.I, .bool q] 49 (0, 0)) := by rw [← hW0]; exact heap_alloc_new w _
  obtain ⟨bx, hbx⟩ : ∃ z, w.heap.size = z := ⟨_, rfl⟩
  rw [hbx] at hb0 hx0
  have HSx := Lib.hid (fun W (hW : Touch (fun k => ¬ k = bx) W0 W) => (show W.cell? ⟨bx, 1, none⟩ = some (.int .i64 at_) ∧ W.cell? ⟨bx, 2, none⟩ = some (.int .i64 x.s.T) ∧ W.cell? ⟨bx, 3, none⟩ = some (.int .i64 x.s.R) ∧ W.cell? ⟨bx, 4, none⟩ = some (.int .i64 x.I) ∧ W.cell? ⟨bx, 5, none⟩ = some (.bool q) from by
    have hh := block_touch hx0 hW (fun h => h rfl)
    exact ⟨cell_of_row _ _ 1 _ _ _ hh, cell_of_row _ _ 2 _ _ _ hh, cell_of_row _ _ 3 _ _ _ hh, cell_of_row _ _ 4 _ _ _ hh, cell_of_row _ _ 5 _ _ _ hh⟩))
  have HW0 := Lib.hid hW0
  have HBX := Lib.hid hbx
  have HB0 := Lib.hid hb0
  have t0 : Touch (fun k => ¬ k = bx) W0 W0 := Touch.refl _ _
  have t1 : Touch (fun k => ¬ k = bx) W0 W0.drew := t0.drew
  obtain ⟨e1, e2, e3, e4, e5⟩ := HSx.out W0 t0
  have HSP := Lib.hid (fun W (hW : Both w0 (fun k => k = bx) sb rb R R W) => hW.sput (by omega) (R.length : Int) x q)
  have HRP := Lib.hid (fun W (hW : Both w0 (fun k => k = bx) sb rb (putV R (R.length : Int) x q) R W) => hW.rput (by omega) (R.length : Int) x q)
  unfold idV at HSP HRP
  obtain ⟨Ai, ci, vs, hcr, _⟩ := hb0.rlen
  have hrl : rb < W0.heap.size := (Array.getElem?_eq_some_iff.1 hcr).1
  have HSy := Lib.hid (fun W (hW : Touch (fun k => ¬ k = bx ∧ k ≠ rb) W0 W) => (show (W.cell? ⟨bx, 2, none⟩ = some (.int .i64 x.s.T) ∧ W.cell? ⟨bx, 3, none⟩ = some (.int .i64 x.s.R) ∧ W.cell? ⟨bx, 4, none⟩ = some (.int .i64 x.I) ∧ W.cell? ⟨bx, 5, none⟩ = some (.bool q)) ∧ W.cell? ⟨rb, 0, none⟩ = some (.slice Ai R.length ci) from
    ⟨(HSx.out W (hW.mono (fun _ _ h => h.1))).2, cell_of_row _ _ 0 _ _ _ (block_touch hcr hW (fun h => h.2 rfl))⟩))
  have t1 : Touch (fun k => ¬ k = bx ∧ k ≠ rb) W0 W0.drew := (Touch.refl _ W0).drew
  clear hcr e1 e2 e3 e4 e5 t0 hrl
  clear hW0 hb0 hx0 hbx h
  go_enter Try.func15, Try.ntmps15
  go_wp2
  rw [HW0.out, HBX.out]
  refine wp_region_any rfl ?_
  change wpAny _ _ _ _ 24 #[false, false, false, false, false, false, false, false, false, false, false, false, false, false, false, false, false, false, false, false, false, false, false, false] _ (World.drew _)
  refine' wpAny_take (i := 0) (v := _) rfl (by kernel_rfl) (by kernel_rfl) (by kernel_rfl) (fun _ _ _ h => h) (Or.inl ⟨by rfl, ?hy1⟩) ?rest1
  case hy1 => (intro w'; go_simp; (try with_reducible rfl))
  try simp only [Act.put, List.setIfInBounds_toArray, List.set_cons_zero]
  refine' wpAny_take (i := 1) (v := _) rfl (by kernel_rfl) (by kernel_rfl) (by kernel_rfl) (fun _ _ _ h => h) (Or.inl ⟨by rfl, ?hy2⟩) ?rest2
  case hy2 => (intro w'; go_simp; (try with_reducible rfl))
  try simp only [Act.put, List.setIfInBounds_toArray, List.set_cons_zero, List.set_cons_succ]
  refine' wpAny_take (i := 2) (v := _) rfl (by kernel_rfl) (by kernel_rfl) (by kernel_rfl) (fun _ _ _ h => h) (Or.inl ⟨by rfl, ?hy3⟩) ?rest3
  case hy3 => (intro w'; go_simp; (try with_reducible rfl))
  try simp only [Act.put, List.setIfInBounds_toArray, List.set_cons_zero, List.set_cons_succ]
  refine' wpAny_take (i := 3) (v := _) rfl (by kernel_rfl) (by kernel_rfl) (by kernel_rfl) (fun _ _ _ h => h) (Or.inl ⟨by rfl, ?hy4⟩) ?rest4
  case hy4 => (intro w'; go_simp; (try with_reducible rfl))
  try simp only [Act.put, List.setIfInBounds_toArray, List.set_cons_zero, List.set_cons_succ]
  refine' wpAny_take (i := 6) (v := _) rfl (by kernel_rfl) (by kernel_rfl) (by kernel_rfl) (fun _ _ _ h => h) (Or.inl ⟨by rfl, ?hy5⟩) ?rest5
  case hy5 => (intro w'; go_simp; (try with_reducible rfl))
  try simp only [Act.put, List.setIfInBounds_toArray, List.set_cons_zero, List.set_cons_succ]
  refine' wpAny_take (i := 8) (v := _) rfl (by kernel_rfl) (by kernel_rfl) (by kernel_rfl) (fun _ _ _ h => h) (Or.inl ⟨by rfl, ?hy6⟩) ?rest6
  case hy6 => (intro w'; go_simp; (try with_reducible rfl))
  try simp only [Act.put, List.setIfInBounds_toArray, List.set_cons_zero, List.set_cons_succ]
  refine' wpAny_take (i := 11) (v := _) rfl (by kernel_rfl) (by kernel_rfl) (by kernel_rfl) (fun _ _ _ h => h) (Or.inl ⟨by rfl, ?hy7⟩) ?rest7
  case hy7 => (intro w'; go_simp; (try with_reducible rfl))
  try simp only [Act.put, List.setIfInBounds_toArray, List.set_cons_zero, List.set_cons_succ]
  refine' wpAny_take (i := 12) (v := _) rfl (by kernel_rfl) (by kernel_rfl) (by kernel_rfl) (fun _ _ _ h => h) (Or.inl ⟨by rfl, ?hy8⟩) ?rest8
  case hy8 => (intro w'; go_simp; (try with_reducible rfl))
  try simp only [Act.put, List.setIfInBounds_toArray, List.set_cons_zero, List.set_cons_succ]
  refine' wpAny_take (i := 13) (v := _) rfl (by kernel_rfl) (by kernel_rfl) (by kernel_rfl) (fun _ _ _ h => h) (Or.inl ⟨by rfl, ?hy9⟩) ?rest9
  case hy9 => (intro w'; go_simp; (try with_reducible rfl))
  try simp only [Act.put, List.setIfInBounds_toArray, List.set_cons_zero, List.set_cons_succ]
  refine' wpAny_take (i := 14) (v := _) rfl (by kernel_rfl) (by kernel_rfl) (by kernel_rfl) (fun _ _ _ h => h) (Or.inl ⟨by rfl, ?hy10⟩) ?rest10
  case hy10 => (intro w'; go_simp; (try with_reducible rfl))
  try simp only [Act.put, List.setIfInBounds_toArray, List.set_cons_zero, List.set_cons_succ]
  refine' wpAny_take (i := 17) (v := _) rfl (by kernel_rfl) (by kernel_rfl) (by kernel_rfl) (fun _ _ _ h => h) (Or.inl ⟨by rfl, ?hy11⟩) ?rest11
  case hy11 => (intro w'; go_simp; (try with_reducible rfl))
  try simp only [Act.put, List.setIfInBounds_toArray, List.set_cons_zero, List.set_cons_succ]
  refine' wpAny_take (i := 19) (v := _) rfl (by kernel_rfl) (by kernel_rfl) (by kernel_rfl) (fun _ _ _ h => h) (Or.inl ⟨by rfl, ?hy12⟩) ?rest12
  case hy12 => (intro w'; go_simp; (try with_reducible rfl))
  try simp only [Act.put, List.setIfInBounds_toArray, List.set_cons_zero, List.set_cons_succ]
  refine HeadH.of (n := 21) (g := 3) (S := (fun W' => (W'.cell? ⟨bx, 2, none⟩ = some (.int .i64 x.s.T) ∧ W'.cell? ⟨bx, 3, none⟩ = some (.int .i64 x.s.R) ∧ W'.cell? ⟨bx, 4, none⟩ = some (.int .i64 x.I) ∧ W'.cell? ⟨bx, 5, none⟩ = some (.bool q)) ∧ W'.cell? ⟨rb, 0, none⟩ = some (.slice Ai R.length ci))) 9 _ _ _ ?_
  refine' HeadH.take2 (i := 4) (v := _) rfl (by kernel_rfl) rfl (by kernel_rfl) (by kernel_rfl) (by kernel_rfl) (fun _ _ _ h => h) (Or.inl ⟨by rfl, ?hy13⟩) ?hS13 ?rest13
  case hy13 => (intro w' hSw; (try dsimp only at hSw); go_simp; (try with_reducible rfl))
  case hS13 => exact HSy.out _ (by assumption)
  try simp only [Act.put, List.setIfInBounds_toArray, List.set_cons_zero, List.set_cons_succ]
  refine' HeadH.take2 (i := 7) (v := _) rfl (by kernel_rfl) rfl (by kernel_rfl) (by kernel_rfl) (by kernel_rfl) (fun _ _ _ h => h) (Or.inl ⟨by rfl, ?hy14⟩) ?hS14 ?rest14
  case hy14 => (intro w' hSw; (try dsimp only at hSw); go_simp; (try with_reducible rfl))
  case hS14 => exact HSy.out _ (by assumption)
  try simp only [Act.put, List.setIfInBounds_toArray, List.set_cons_zero, List.set_cons_succ]
  refine' HeadH.take2 (i := 9) (v := _) rfl (by kernel_rfl) rfl (by kernel_rfl) (by kernel_rfl) (by kernel_rfl) (fun _ _ _ h => h) (Or.inl ⟨by rfl, ?hy15⟩) ?hS15 ?rest15
  case hy15 => (intro w' hSw; (try dsimp only at hSw); go_simp; (try with_reducible rfl))
  case hS15 => exact HSy.out _ (by assumption)
  try simp only [Act.put, List.setIfInBounds_toArray, List.set_cons_zero, List.set_cons_succ]
  refine' HeadH.take2 (i := 15) (v := _) rfl (by kernel_rfl) rfl (by kernel_rfl) (by kernel_rfl) (by kernel_rfl) (fun _ _ _ h => h) (Or.inl ⟨by rfl, ?hy16⟩) ?hS16 ?rest16
  case hy16 => (intro w' hSw; (try dsimp only at hSw); go_simp; (try with_reducible rfl))
  case hS16 => exact HSy.out _ (by assumption)
  try simp only [Act.put, List.setIfInBounds_toArray, List.set_cons_zero, List.set_cons_succ]
  refine' HeadH.take2 (i := 18) (v := _) rfl (by kernel_rfl) rfl (by kernel_rfl) (by kernel_rfl) (by kernel_rfl) (fun _ _ _ h => h) (Or.inl ⟨by rfl, ?hy17⟩) ?hS17 ?rest17
  case hy17 => (intro w' hSw; (try dsimp only at hSw); go_simp; (try with_reducible rfl))
  case hS17 => exact HSy.out _ (by assumption)
  try simp only [Act.put, List.setIfInBounds_toArray, List.set_cons_zero, List.set_cons_succ]
  refine' HeadH.take2 (i := 20) (v := _) rfl (by kernel_rfl) rfl (by kernel_rfl) (by kernel_rfl) (by kernel_rfl) (fun _ _ _ h => h) (Or.inl ⟨by rfl, ?hy18⟩) ?hS18 ?rest18
  case hy18 => (intro w' hSw; (try dsimp only at hSw); go_simp; (try with_reducible rfl))
  case hS18 => exact HSy.out _ (by assumption)
  try simp only [Act.put, List.setIfInBounds_toArray, List.set_cons_zero, List.set_cons_succ]
  refine' HeadH.take2 (i := 5) (v := _) rfl (by kernel_rfl) rfl (by kernel_rfl) (by kernel_rfl) (by kernel_rfl) (fun _ _ _ h => h) (Or.inl ⟨by rfl, ?hy19⟩) ?hS19 ?rest19
  case hy19 => (intro w' hSw; (try dsimp only at hSw); go_simp; (try with_reducible rfl))
  case hS19 => exact HSy.out _ (by assumption)
  try simp only [Act.put, List.setIfInBounds_toArray, List.set_cons_zero, List.set_cons_succ]
  refine' HeadH.take2 (i := 16) (v := _) rfl (by kernel_rfl) rfl (by kernel_rfl) (by kernel_rfl) (by kernel_rfl) (fun _ _ _ h => h) (Or.inl ⟨by rfl, ?hy20⟩) ?hS20 ?rest20
  case hy20 => (intro w' hSw; (try dsimp only at hSw); go_simp; (try with_reducible rfl))
  case hS20 => exact HSy.out _ (by assumption)
  try simp only [Act.put, List.setIfInBounds_toArray, List.set_cons_zero, List.set_cons_succ]
  refine HeadH.all (rs := [10]) (by kernel_rfl) rfl ?_
  refine HeadAll.cons rfl (by kernel_rfl) (fun K hK => ?_) HeadAll.nil
  go_simp
  go_at_call 9
  refine (HSP.out _ HB0.out.drew).mono ?_
  rintro e w5 ⟨rfl, hb5, t4⟩
  have t5 := t1.trans t4 (fun _ _ h => h)
  try go_wp2_with fail
  refine hK.out _ _ (by exact HSy.out _ (by assumption)) (fun hHeld => ?_)
  clear hK K
  try simp only [List.setIfInBounds_toArray, List.set_cons_zero, List.set_cons_succ]
  refine HeadH.done (by kernel_rfl) ?_
  refine wpAny_ready (rs := [21]) (by kernel_rfl) (by simp) (AllReady.cons rfl (fun K hK => ?_) AllReady.nil)
  go_simp
  go_at_call 18
  refine (HRP.out _ hb5).mono ?_
  rintro e w6 ⟨rfl, hb6, t6⟩
  refine hK _ _ ?_
  clear hK K
  try simp only [List.setIfInBounds_toArray, List.set_cons_zero, List.set_cons_succ]
  refine wpAny_ready (rs := [22]) (by kernel_rfl) (by simp) (AllReady.cons rfl (fun K hK => ?_) AllReady.nil)
  go_simp
  refine hK _ _ ?_
  clear hK K
  try simp only [List.setIfInBounds_toArray, List.set_cons_zero, List.set_cons_succ]
  refine wpAny_ready (rs := [23]) (by kernel_rfl) (by simp) (AllReady.cons rfl (fun K hK => ?_) AllReady.nil)
  go_simp
  refine hK _ _ ?_
  clear hK K
  try simp only [List.setIfInBounds_toArray, List.set_cons_zero, List.set_cons_succ]
  refine wpAny_done (by kernel_rfl) ?_ _
  go_wp2_with fail
  go_ret
  exact ⟨by simp, _, hb6.open, putV_len _ _ _ _⟩
theorem same_any {w0 w : World} {sb rb : Nat} {R : Row Id} (h : Both w0 (fun _ => False) sb rb R R w) (hl : R.length ≤ 9000) (wh at_ : Int) (x : Id) (q : Bool) :
    Calls Try.prog 15 #[.pointer (some ⟨sb, 0, none⟩), .pointer (some ⟨rb, 0, none⟩), .agg #[.int .i64 wh, .int .i64 at_, .int .i64 x.s.T, .int .i64 x.s.R, .int .i64 x.I, .bool q]] w (SamePost w0 sb rb R) := by
  obtain ⟨k, hk⟩ : ∃ k, bits .and .i64 wh 15 = k := ⟨_, rfl⟩
  by_cases h1 : 14 ≤ k
  · exact same_back h hl wh at_ x q (by omega)
  · by_cases h2 : k < 8
    · exact same_put h hl wh at_ x q (by omega)
    · by_cases h3 : k < 11
      · exact same_show h hl wh at_ x q (by omega)
      · by_cases h4 : k = 11
        · exact same_find h hl wh at_ x q (by omega)
        · by_cases h5 : k = 12
          · exact same_place h hl wh at_ x q (by omega)
          · exact same_list h hl wh at_ x q (by omega)
end Go.Proofs.Ytphapjbfaomblaa
