/- The document's sheet: Take. -/
import Derived.Test.YtphapjbfaomblaaDoorZcKG
namespace Go.Proofs.YtphapjbfaomblaaDoor
open Go Go.RowKit Go.Maps
noncomputable def takeR (s : Rs) (x : Id) (q : Bool) : Rs := if hadR s x = true then (if q then { s with go := s.go ++ [x] } else { s with re := s.re ++ [x] }) else s
noncomputable def takeE (s : Rs) (x : Id) : Int := if hadR s x = true then 0 else 111
set_option maxRecDepth 100000 in
set_option maxHeartbeats 4000000 in
theorem rtake_any {w : World} {rb : Nat} {v : RsV} {s : Rs} (h : RsIs w rb v s) (ho : RsOk s) (hl : s.go.length ≤ 10000 ∧ s.re.length ≤ 10000) (x : Id) (q : Bool) :
    Calls Tryd.prog 28 #[.pointer (some ⟨rb, 0, none⟩), idV x, .bool q] w fun e w' => e = .returned (.int .i64 (takeE s x)) ∧ RsPost w rb v (takeR s x q) w' := by
  obtain ⟨i0, hi, hz0, hz1, hz2⟩ := info_parts info_insId
  obtain ⟨hl1, hl2⟩ := hl
  obtain ⟨W0, hW0⟩ : ∃ W, w.alloc (.cells #[.int .i64 x.s.T, .int .i64 x.s.R, .int .i64 x.I] 26) = W := ⟨_, rfl⟩
  have hb0 : Below w.heap.size w W0 := by rw [← hW0]; exact (Below.refl _ w).alloc (Nat.le_refl _) _
  have hx0 : Box W0 w.heap.size x := by rw [← hW0]; exact heap_alloc_new w _
  obtain ⟨bx, hbx⟩ : ∃ z, w.heap.size = z := ⟨_, rfl⟩
  rw [hbx] at hx0
  obtain ⟨c0, c1, c2⟩ := hx0.cells3
  have HH := Lib.hid (fun W (hW : Below w.heap.size w W) => rhas_any (h.below hW) ho x)
  unfold idV at HH
  have HW0 := Lib.hid hW0
  have HBX := Lib.hid hbx
  have HB0 := Lib.hid hb0
  have HX0 := Lib.hid hx0
  clear hW0 hb0 hx0 hbx
  unfold idV
  go_enter Tryd.func28, Tryd.ntmps28
  go_upto_region 1 with (fail)
  rw [HW0.out, HBX.out]
  go_wp2_with fail
  refine (HH.out W0 HB0.out).mono ?_
  rintro e w1 ⟨rfl, hb1⟩
  have hx1 : Box w1 bx x := (hb1.block _ (Array.getElem?_eq_some_iff.1 HX0.out).1).trans HX0.out
  have hbw := HB0.out.trans (hb1.mono HB0.out.size)
  have HB1 := Lib.hid hbw
  have HS1 := Lib.hid (h.below hbw)
  clear c0 c1 c2 hb1 hbw HX0 HH
  obtain ⟨c0, c1, c2⟩ := hx1.cells3
  rcases hh : hadR s x with _ | _
  · have HTE := Lib.hid (show takeE s x = 111 from by unfold takeE; rw [if_neg (by rw [hh]; decide)])
    have HF := Lib.hid (show RsPost w rb v (takeR s x q) w1 from by
      unfold takeR
      rw [if_neg (by rw [hh]; decide)]
      exact ⟨v, HS1.out, Below.touch HB1.out _, fun k hk => .inl hk⟩)
    clear hx1
    go_wp2
    go_ret
    exact ⟨by rw [HTE.out]; rfl, HF.out⟩
  · have hlx : bx < w1.heap.size := (Array.getElem?_eq_some_iff.1 hx1).1
    have HTE := Lib.hid (show takeE s x = 0 from by unfold takeE; rw [if_pos hh])
    have HTR := Lib.hid (show takeR s x q = if q then { s with go := s.go ++ [x] } else { s with re := s.re ++ [x] } from by unfold takeR; rw [if_pos hh])
    clear hx1
    cases q
    rotate_left
    · -- go
      obtain ⟨Ao, co, hv, hnc, hcm⟩ := (Rd.of_own HS1.out.g).form
      unfold maxLen at hcm
      obtain ⟨n, hn⟩ : ∃ n, s.go.length = n := ⟨_, rfl⟩
      have hn1 : n ≤ 10000 := by omega
      have hce := HS1.out.cell
      have r1 : w1.cell? ⟨rb, 3, none⟩ = some (.slice Ao n co) := by
        rw [← hn, ← hv]
        exact cell_of_row _ _ 3 _ _ _ hce
      have hown : w1.ownsRow 0 26 3 (.slice Ao n co) n (s.go.flatMap idC) := by
        have := HS1.out.g
        rw [hv, hn] at this
        exact this
      have hrb : rb < w1.heap.size := (Array.getElem?_eq_some_iff.1 hce).1
      have HK := Lib.hid (show ∀ o W, (w1.drew.alloc o).grownBy W (Value.slice Ao n co).ownBlock → W.cell? ⟨rb, 3, none⟩ = some (.slice Ao n co) ∧ W.frozen? ⟨rb, 3, none⟩ = false from fun o W hg => by
        have h1 : (w1.drew.alloc o).heap[rb]? = _ := (Below.heap_alloc w1.drew o rb hrb).trans hce
        have h2 := grown_kind ((own_drewR hown).alloc o) hg h1 (by decide)
        refine ⟨?_, by simp [World.frozen?, h2]⟩
        rw [← hn, ← hv]
        exact cell_of_row _ _ 3 _ _ _ h2)
      have HFIN := Lib.hid (show ∀ o W u, W.ownsRow 0 26 3 u (n + 1) (s.go.flatMap idC ++ idC x) → (w1.drew.alloc o).grownBy W (Value.slice Ao n co).ownBlock → (∀ g, u.ownBlock = some g → (Value.slice Ao n co).ownBlock = some g ∨ w.heap.size ≤ g) → RsPost w rb v { s with go := s.go ++ [x] } (W.setCell ⟨rb, 3, none⟩ u) from fun o W u h1 h2 h3 => by
        rw [← hn] at h1 h2 h3
        rw [← hv] at h2 h3
        obtain ⟨a, b, c⟩ := h.step_g h1 (HB1.out.drew) h2 h3
        exact ⟨_, a, b, c⟩)
      have HOWN := Lib.hid hown
      clear hv hnc hn hce hown h
      go_wp2
      go_region_law (refine step_append_lies _ (by rfl) _ _ _ (by rfl) 0 26 i0 _ 3 24 Tryd.underlying31 hi hz0 hz1 hz2 rfl (by omega) _ n _ (by rfl) ((own_drewR HOWN.out).alloc _) ⟨w1.heap.size, 0, none⟩ 1 1 (idC x) (by rfl) (by rfl) (cells_new w1.drew (idC x) 26) (enc_one_insId x) (by omega) (by unfold maxLen; omega) (by omega) (Nat.zero_le _) _ (by rfl) ?_; intro g cap W4 hown4 hgrow4 hat4 hgl4; obtain ⟨q1, q2⟩ := HK.out _ W4 hgrow4)
      all_goals (
        have HF := Lib.hid (HFIN.out _ W4 _ hown4 hgrow4 (fun g' hg => by
          have e1 : g = g' := by simpa [Value.ownBlock] using hg
          subst e1
          refine hat4.imp id (fun e => ?_)
          have : g = w1.heap.size + 1 := by simpa using e
          have := HB1.out.size
          omega))
        clear hown4 hgrow4 hat4 hgl4 q1 q2
        go_wp2
        go_ret
        exact ⟨by rw [HTE.out]; rfl, by rw [HTR.out]; exact HF.out⟩)
    · -- re
      obtain ⟨Ao, co, hv, hnc, hcm⟩ := (Rd.of_own HS1.out.t).form
      unfold maxLen at hcm
      obtain ⟨n, hn⟩ : ∃ n, s.re.length = n := ⟨_, rfl⟩
      have hn1 : n ≤ 10000 := by omega
      have hce := HS1.out.cell
      have r1 : w1.cell? ⟨rb, 4, none⟩ = some (.slice Ao n co) := by
        rw [← hn, ← hv]
        exact cell_of_row _ _ 4 _ _ _ hce
      have hown : w1.ownsRow 0 26 3 (.slice Ao n co) n (s.re.flatMap idC) := by
        have := HS1.out.t
        rw [hv, hn] at this
        exact this
      have hrb : rb < w1.heap.size := (Array.getElem?_eq_some_iff.1 hce).1
      have HK := Lib.hid (show ∀ o W, (w1.drew.alloc o).grownBy W (Value.slice Ao n co).ownBlock → W.cell? ⟨rb, 4, none⟩ = some (.slice Ao n co) ∧ W.frozen? ⟨rb, 4, none⟩ = false from fun o W hg => by
        have h1 : (w1.drew.alloc o).heap[rb]? = _ := (Below.heap_alloc w1.drew o rb hrb).trans hce
        have h2 := grown_kind ((own_drewR hown).alloc o) hg h1 (by decide)
        refine ⟨?_, by simp [World.frozen?, h2]⟩
        rw [← hn, ← hv]
        exact cell_of_row _ _ 4 _ _ _ h2)
      have HFIN := Lib.hid (show ∀ o W u, W.ownsRow 0 26 3 u (n + 1) (s.re.flatMap idC ++ idC x) → (w1.drew.alloc o).grownBy W (Value.slice Ao n co).ownBlock → (∀ g, u.ownBlock = some g → (Value.slice Ao n co).ownBlock = some g ∨ w.heap.size ≤ g) → RsPost w rb v { s with re := s.re ++ [x] } (W.setCell ⟨rb, 4, none⟩ u) from fun o W u h1 h2 h3 => by
        rw [← hn] at h1 h2 h3
        rw [← hv] at h2 h3
        obtain ⟨a, b, c⟩ := h.step_t h1 (HB1.out.drew) h2 h3
        exact ⟨_, a, b, c⟩)
      have HOWN := Lib.hid hown
      clear hv hnc hn hce hown h
      go_wp2
      go_region_law (refine step_append_lies _ (by rfl) _ _ _ (by rfl) 0 26 i0 _ 3 24 Tryd.underlying31 hi hz0 hz1 hz2 rfl (by omega) _ n _ (by rfl) ((own_drewR HOWN.out).alloc _) ⟨w1.heap.size, 0, none⟩ 1 1 (idC x) (by rfl) (by rfl) (cells_new w1.drew (idC x) 26) (enc_one_insId x) (by omega) (by unfold maxLen; omega) (by omega) (Nat.zero_le _) _ (by rfl) ?_; intro g cap W4 hown4 hgrow4 hat4 hgl4; obtain ⟨q1, q2⟩ := HK.out _ W4 hgrow4)
      all_goals (
        have HF := Lib.hid (HFIN.out _ W4 _ hown4 hgrow4 (fun g' hg => by
          have e1 : g = g' := by simpa [Value.ownBlock] using hg
          subst e1
          refine hat4.imp id (fun e => ?_)
          have : g = w1.heap.size + 1 := by simpa using e
          have := HB1.out.size
          omega))
        clear hown4 hgrow4 hat4 hgl4 q1 q2
        go_wp2
        go_ret
        exact ⟨by rw [HTE.out]; rfl, by rw [HTR.out]; exact HF.out⟩)
end Go.Proofs.YtphapjbfaomblaaDoor
