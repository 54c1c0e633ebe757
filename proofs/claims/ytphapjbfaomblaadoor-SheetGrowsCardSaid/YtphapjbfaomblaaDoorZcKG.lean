/- The document's sheet: Set. -/
import Derived.Test.YtphapjbfaomblaaDoorZcKF
namespace Go.Proofs.YtphapjbfaomblaaDoor
open Go Go.RowKit Go.Maps
def RsPost (w : World) (rb : Nat) (v : RsV) (s' : Rs) (w' : World) : Prop := ∃ v', RsIs w' rb v' s' ∧ Touch (rfoot rb v) w w' ∧ ∀ k, rfoot rb v' k → rfoot rb v k ∨ w.heap.size ≤ k
set_option maxRecDepth 100000 in
set_option maxHeartbeats 4000000 in
theorem rset_any {w : World} {rb : Nat} {v : RsV} {s : Rs} (h : RsIs w rb v s) (hl : s.on.length ≤ 10000) (x : Stamp) :
    Calls Tryd.prog 26 #[.pointer (some ⟨rb, 0, none⟩), stV x, .bool true] w fun e w' => (∃ u, e = .returned u) ∧ RsPost w rb v { s with on := s.on ++ [x] } w' := by
  obtain ⟨i0, hi, hz0, hz1, hz2⟩ := info_parts info24K
  obtain ⟨Ao, co, hv, hnc, hcm⟩ := (Rd.of_own h.o).form
  unfold maxLen at hcm
  obtain ⟨n, hn⟩ : ∃ n, s.on.length = n := ⟨_, rfl⟩
  have hn1 : n ≤ 10000 := by omega
  obtain ⟨W0, hW0⟩ : ∃ W, w.alloc (.cells #[.int .i64 x.T, .int .i64 x.R] 24) = W := ⟨_, rfl⟩
  have hb0 : Below w.heap.size w W0 := by rw [← hW0]; exact (Below.refl _ w).alloc (Nat.le_refl _) _
  have hx0 : W0.heap[w.heap.size]? = some (.cells #[.int .i64 x.T, .int .i64 x.R] 24 (0, 0)) := by rw [← hW0]; exact heap_alloc_new w _
  obtain ⟨bx, hbx⟩ : ∃ z, w.heap.size = z := ⟨_, rfl⟩
  rw [hbx] at hx0
  have c0 : W0.cell? ⟨bx, 0, none⟩ = some (.int .i64 x.T) := cell_of_row _ _ 0 _ _ _ hx0
  have c1 : W0.cell? ⟨bx, 1, none⟩ = some (.int .i64 x.R) := cell_of_row _ _ 1 _ _ _ hx0
  have hce := (h.below hb0).cell
  have r1 : W0.cell? ⟨rb, 1, none⟩ = some (.slice Ao n co) := by
    rw [← hn, ← hv]
    exact cell_of_row _ _ 1 _ _ _ hce
  have hown : W0.ownsRow 0 24 2 (.slice Ao n co) n (s.on.flatMap stC) := by
    have := (h.below hb0).o
    rw [hv, hn] at this
    exact this
  have hrb : rb < W0.heap.size := (Array.getElem?_eq_some_iff.1 hce).1
  have HK := Lib.hid (show ∀ o W, (W0.drew.alloc o).grownBy W (Value.slice Ao n co).ownBlock → W.cell? ⟨rb, 1, none⟩ = some (.slice Ao n co) ∧ W.frozen? ⟨rb, 1, none⟩ = false from fun o W hg => by
    have h1 : (W0.drew.alloc o).heap[rb]? = _ := (Below.heap_alloc W0.drew o rb hrb).trans hce
    have h2 := grown_kind ((own_drewR hown).alloc o) hg h1 (by decide)
    refine ⟨?_, by simp [World.frozen?, h2]⟩
    rw [← hn, ← hv]
    exact cell_of_row _ _ 1 _ _ _ h2)
  have HFIN := Lib.hid (show ∀ o W u, W.ownsRow 0 24 2 u (n + 1) (s.on.flatMap stC ++ stC x) → (W0.drew.alloc o).grownBy W (Value.slice Ao n co).ownBlock → (∀ g, u.ownBlock = some g → (Value.slice Ao n co).ownBlock = some g ∨ w.heap.size ≤ g) → RsPost w rb v { s with on := s.on ++ [x] } (W.setCell ⟨rb, 1, none⟩ u) from fun o W u h1 h2 h3 => by
    rw [← hn] at h1 h2 h3
    rw [← hv] at h2 h3
    obtain ⟨a, b, c⟩ := h.step_o h1 hb0.drew h2 h3
    exact ⟨_, a, b, c⟩)
  have HOWN := Lib.hid hown
  have HW0 := Lib.hid hW0
  have HBX := Lib.hid hbx
  have hws : bx < W0.heap.size := (Array.getElem?_eq_some_iff.1 hx0).1
  clear hv hnc hn hW0 hb0 hx0 hbx hce hown h
  unfold stV
  go_enter Tryd.func26, Tryd.ntmps26
  go_upto_region 2 with (fail)
  rw [HW0.out, HBX.out]
  go_region_law (refine step_append_lies _ (by rfl) _ _ _ (by rfl) 0 24 i0 _ 2 16 Tryd.underlying42 hi hz0 hz1 hz2 rfl (by omega) _ n _ (by rfl) ((own_drewR HOWN.out).alloc _) ⟨W0.heap.size, 0, none⟩ 1 1 (stC x) (by rfl) (by rfl) (cells_new W0.drew (stC x) 24) (stC_oneK x) (by omega) (by unfold maxLen; omega) (by omega) (Nat.zero_le _) _ (by rfl) ?_; intro g cap W4 hown4 hgrow4 hat4 hgl4; obtain ⟨q1, q2⟩ := HK.out _ W4 hgrow4)
  all_goals (
    have HF := Lib.hid (HFIN.out _ W4 _ hown4 hgrow4 (fun g' hg => by
      have e1 : g = g' := by simpa [Value.ownBlock] using hg
      subst e1
      refine hat4.imp id (fun e => ?_)
      have : g = W0.heap.size + 1 := by simpa using e
      have := HBX.out
      omega))
    clear hown4 hgrow4 hat4 hgl4 q1 q2
    go_end0
    exact ⟨⟨_, rfl⟩, HF.out⟩)
end Go.Proofs.YtphapjbfaomblaaDoor
