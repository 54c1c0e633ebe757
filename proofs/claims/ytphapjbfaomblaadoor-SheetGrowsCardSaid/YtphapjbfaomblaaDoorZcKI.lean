/- The document's sheet: Add, where it answers OK. -/
import Derived.Test.YtphapjbfaomblaaDoorZcKH
import Derived.Test.YtphapjbfaomblaaDoorZb18
import Derived.Test.YtphapjbfaomblaaDoorZb23
namespace Go.Proofs.YtphapjbfaomblaaDoor
open Go Go.RowKit Go.Maps
set_option maxRecDepth 100000 in
set_option maxHeartbeats 4000000 in
theorem radd_any {w : World} {rb : Nat} {v : RsV} {s : Rs} (h : RsIs w rb v s) (ho : RsOk s) (hl : s.R.length ≤ 10000) (r : Rn) (ps : List (List UInt8)) (hps : AllP ps) (htx : r.tx = ofL ps.flatten) (hpl : 0 < ps.length ∧ ps.length ≤ 1000) (hfl : r.tx.size ≤ 1000000000)
    (haf : r.af = zeroI ∨ hadR s r.af = true) (hI : 0 ≤ r.el.I ∧ r.el.I ≤ 1000) (hg : ∀ j, j < ps.length → nthI r.el j ≠ zeroI ∧ hadR s (nthI r.el j) = false) :
    Calls Tryd.prog 24 #[.pointer (some ⟨rb, 0, none⟩), rnU r] w fun e w' => e = .returned (.int .i64 0) ∧ RsPost w rb v { s with R := s.R ++ [r] } w' := by
  obtain ⟨i0, hi, hz0, hz1, hz2⟩ := info_parts info28
  obtain ⟨af, el, tx⟩ := r
  dsimp only at htx hfl haf hI hg
  obtain ⟨W0, hW0⟩ : ∃ W, w.alloc (.cells #[.int .i64 af.s.T, .int .i64 af.s.R, .int .i64 af.I, .int .i64 el.s.T, .int .i64 el.s.R, .int .i64 el.I, .string tx] 28) = W := ⟨_, rfl⟩
  have hb0 : Below w.heap.size w W0 := by rw [← hW0]; exact (Below.refl _ w).alloc (Nat.le_refl _) _
  have hx0 : W0.heap[w.heap.size]? = some (.cells #[.int .i64 af.s.T, .int .i64 af.s.R, .int .i64 af.I, .int .i64 el.s.T, .int .i64 el.s.R, .int .i64 el.I, .string tx] 28 (0, 0)) := by rw [← hW0]; exact heap_alloc_new w _
  obtain ⟨bx, hbx⟩ : ∃ z, w.heap.size = z := ⟨_, rfl⟩
  rw [hbx] at hx0
  have hlx0 := (Array.getElem?_eq_some_iff.1 hx0).1
  have HXB := Lib.hid (fun W (hW : Below W0.heap.size W0 W) => (hW.block bx hlx0).trans hx0)
  have c6 : W0.cell? ⟨bx, 6, none⟩ = some (.string tx) := cell_of_row _ _ 6 _ _ _ hx0
  have HLEN := Lib.hid (fun W => rlen_any tx W hfl ps hps htx)
  have HH := Lib.hid (fun (x : Id) W (hW : Below w.heap.size w W) => (show Calls Tryd.prog 50 #[.pointer (some ⟨rb, 0, none⟩), .agg #[.int .i64 x.s.T, .int .i64 x.s.R, .int .i64 x.I]] W (fun e w' => e = .returned (.bool (hadR s x)) ∧ Below W.heap.size W w') from rhas_any (h.below hW) ho x))
  have HW0 := Lib.hid hW0
  have HBX := Lib.hid hbx
  have HB0 := Lib.hid hb0
  have HAF := Lib.hid haf
  have HG := Lib.hid hg
  obtain ⟨np, hnp⟩ : ∃ n, ps.length = n := ⟨_, rfl⟩
  rw [hnp] at hpl HLEN HG
  obtain ⟨hn0, hn1⟩ := hpl
  obtain ⟨hI0, hI1⟩ := hI
  have i0' : ¬ (np : Int) = 0 := by omega
  have hq := neq26
  have hq2 := eql26
  have hgd := gd26
  clear hW0 hbx hx0 haf hg htx hfl hps hb0
  unfold rnU
  go_enter Tryd.func24, Tryd.ntmps24
  go_upto_region 1 with (fail)
  rw [HW0.out, HBX.out]
  go_wp2_with fail
  refine (HLEN.out W0).mono ?_
  rintro e w1 ⟨rfl, hb1⟩
  have hx1 := HXB.out w1 hb1
  have hbw1 := HB0.out.trans (hb1.mono HB0.out.size)
  have a0 : w1.cell? ⟨bx, 0, none⟩ = some (.int .i64 af.s.T) := cell_of_row _ _ 0 _ _ _ hx1
  have a1 : w1.cell? ⟨bx, 1, none⟩ = some (.int .i64 af.s.R) := cell_of_row _ _ 1 _ _ _ hx1
  have a2 : w1.cell? ⟨bx, 2, none⟩ = some (.int .i64 af.I) := cell_of_row _ _ 2 _ _ _ hx1
  have hE : eq3 af.s.T af.s.R af.I 0 0 0 = decide (af = zeroI) := eq3_id af zeroI
  have HB1 := Lib.hid hbw1
  have HB01 := Lib.hid hb1
  clear c6 hx1 hbw1 hb1
  have hnb : ((np : Int) == 0) = false := by rw [beq_eq_false_iff_ne]; exact i0'
  by_cases hz : af = zeroI
  all_goals first
    | (rw [decide_eq_true hz] at hE
       clear hz
       go_wp2_with fail
       obtain ⟨wL, rfl⟩ : ∃ W : World, W = w1 := ⟨_, rfl⟩
       have HBL := Lib.hid HB1.out
       have HBL0 := Lib.hid HB01.out
       clear a0 a1 a2 hE HB1 HB01)
    | (rw [decide_eq_false hz] at hE
       have hT := HAF.out.resolve_left hz
       have hcl := HH.out af w1 HB1.out
       rw [hT] at hcl
       have HCL := Lib.hid hcl
       clear hz hT hcl
       go_wp2_with fail
       refine HCL.out.mono ?_
       rintro e wL ⟨rfl, hb2⟩
       have HBL := Lib.hid (HB1.out.trans (hb2.mono HB1.out.size))
       have HBL0 := Lib.hid (HB01.out.trans (hb2.mono HB01.out.size))
       clear a0 a1 a2 hE HB1 HB01 HCL hb2
       go_wp2)
  all_goals (
    go_loopw [7] (fun i wr => ∃ k : Nat, k ≤ np ∧ i = .int .i64 k ∧ Below wL.heap.size wL wr) (fun i _ => np - (intOf i).toNat)
    case atStart => exact ⟨0, Nat.zero_le _, rfl, Below.refl _ _⟩
    case round =>
      obtain ⟨k, hk, rfl, hb⟩ := hrel
      obtain ⟨wo, rfl⟩ : ∃ wo : World, wo = wr := ⟨_, rfl⟩
      have hxo := HXB.out wo (HBL0.out.trans (hb.mono HBL0.out.size))
      have hbo := HBL.out.trans (hb.mono HBL.out.size)
      by_cases hlt : k < np
      · have hat := nthI_at el k (by omega)
        obtain ⟨hg1, hg2⟩ := HG.out k hlt
        obtain ⟨x, hx⟩ : ∃ x, nthI el k = x := ⟨_, rfl⟩
        rw [hx] at hat hg1 hg2
        have b3 : wo.cell? ⟨bx, 3, none⟩ = some (.int .i64 x.s.T) := by rw [hat.1]; exact cell_of_row _ _ 3 _ _ _ hxo
        have b4 : wo.cell? ⟨bx, 4, none⟩ = some (.int .i64 x.s.R) := by rw [hat.1]; exact cell_of_row _ _ 4 _ _ _ hxo
        have b5 : wo.cell? ⟨bx, 5, none⟩ = some (.int .i64 el.I) := cell_of_row _ _ 5 _ _ _ hxo
        have hw : IntKind.i64.wrap (el.I + (k : Int)) = x.I := by rw [hat.2]; exact IntWalk.i64_in _ (by omega)
        have hE2 : eq3 x.s.T x.s.R x.I 0 0 0 = false := (eq3_id x zeroI).trans (decide_eq_false hg1)
        have hb3 : Below w.heap.size w (wo.alloc (.cells #[.int .i64 x.s.T, .int .i64 x.s.R, .int .i64 x.I] 26)) := hbo.alloc hbo.size _
        have hcl := HH.out x _ hb3
        rw [hg2] at hcl
        have HCL := Lib.hid hcl
        have HBo := Lib.hid hb
        have i1 : (0 : Int) ≤ (k : Int) := by omega
        clear hat hg1 hg2 hx hxo hbo hb3 hcl hb
        go_wp2_with fail
        refine HCL.out.mono ?_
        rintro e w5 ⟨rfl, hb5⟩
        have HB5 := Lib.hid (show Below wL.heap.size wL w5 from (HBo.out.alloc HBo.out.size _).trans (hb5.mono (by have := HBo.out.size; simp; omega)))
        clear hb5 b3 b4 b5 hw hE2 HCL
        go_wp2
        go_roundw
        case rel => exact ⟨k + 1, by omega, by go_num, HB5.out⟩
        case measure => simp [intOf]; omega
      · obtain rfl : k = np := by omega
        have hs1 := h.below hbo
        obtain ⟨Ao, co, hv, hnc, hcm⟩ := (Rd.of_own hs1.r).form
        unfold maxLen at hcm
        obtain ⟨n, hn⟩ : ∃ n, s.R.length = n := ⟨_, rfl⟩
        have hn2 : n ≤ 10000 := by omega
        have hce := hs1.cell
        have r1 : wo.cell? ⟨rb, 0, none⟩ = some (.slice Ao n co) := by
          rw [← hn, ← hv]
          exact cell_of_row _ _ 0 _ _ _ hce
        have hown : wo.ownsRow 0 28 7 (.slice Ao n co) n (s.R.flatMap rnC) := by
          have := hs1.r
          rw [hv, hn] at this
          exact this
        have hrb : rb < wo.heap.size := (Array.getElem?_eq_some_iff.1 hce).1
        have HK := Lib.hid (show ∀ o W, (wo.drew.alloc o).grownBy W (Value.slice Ao n co).ownBlock → W.cell? ⟨rb, 0, none⟩ = some (.slice Ao n co) ∧ W.frozen? ⟨rb, 0, none⟩ = false from fun o W hg => by
          have h1 : (wo.drew.alloc o).heap[rb]? = _ := (Below.heap_alloc wo.drew o rb hrb).trans hce
          have h2 := grown_kind ((own_drewR hown).alloc o) hg h1 (by decide)
          refine ⟨?_, by simp [World.frozen?, h2]⟩
          rw [← hn, ← hv]
          exact cell_of_row _ _ 0 _ _ _ h2)
        have HFIN := Lib.hid (show ∀ o W u, W.ownsRow 0 28 7 u (n + 1) (s.R.flatMap rnC ++ rnC ⟨af, el, tx⟩) → (wo.drew.alloc o).grownBy W (Value.slice Ao n co).ownBlock → (∀ g, u.ownBlock = some g → (Value.slice Ao n co).ownBlock = some g ∨ w.heap.size ≤ g) → RsPost w rb v { s with R := s.R ++ [⟨af, el, tx⟩] } (W.setCell ⟨rb, 0, none⟩ u) from fun o W u h1 h2 h3 => by
          rw [← hn] at h1 h2 h3
          rw [← hv] at h2 h3
          obtain ⟨a, b, c⟩ := h.step_r h1 hbo.drew h2 h3
          exact ⟨_, a, b, c⟩)
        have HOWN := Lib.hid hown
        have b0 : wo.cell? ⟨bx, 0, none⟩ = some (.int .i64 af.s.T) := cell_of_row _ _ 0 _ _ _ hxo
        have b1 : wo.cell? ⟨bx, 1, none⟩ = some (.int .i64 af.s.R) := cell_of_row _ _ 1 _ _ _ hxo
        have b2 : wo.cell? ⟨bx, 2, none⟩ = some (.int .i64 af.I) := cell_of_row _ _ 2 _ _ _ hxo
        have b3 : wo.cell? ⟨bx, 3, none⟩ = some (.int .i64 el.s.T) := cell_of_row _ _ 3 _ _ _ hxo
        have b4 : wo.cell? ⟨bx, 4, none⟩ = some (.int .i64 el.s.R) := cell_of_row _ _ 4 _ _ _ hxo
        have b5 : wo.cell? ⟨bx, 5, none⟩ = some (.int .i64 el.I) := cell_of_row _ _ 5 _ _ _ hxo
        have b6 : wo.cell? ⟨bx, 6, none⟩ = some (.string tx) := cell_of_row _ _ 6 _ _ _ hxo
        have hlxo : bx < wo.heap.size := (Array.getElem?_eq_some_iff.1 hxo).1
        have HWS := Lib.hid hbo.size
        clear hv hnc hn hce hown hs1 hxo hbo hb
        go_wp2
        go_region_law (refine step_append_lies _ (by rfl) _ _ _ (by rfl) 0 28 i0 _ 7 64 Tryd.underlying22 hi hz0 hz1 hz2 rfl (by omega) _ n _ (by rfl) ((own_drewR HOWN.out).alloc _) ⟨wo.heap.size, 0, none⟩ 1 1 (rnC ⟨af, el, tx⟩) (by rfl) (by rfl) (cells_new wo.drew (rnC ⟨af, el, tx⟩) 28) (rnC_one _) (by omega) (by unfold maxLen; omega) (by omega) (Nat.zero_le _) _ (by rfl) ?_; intro g cap W4 hown4 hgrow4 hat4 hgl4; obtain ⟨q1, q2⟩ := HK.out _ W4 hgrow4)
        all_goals (
          have HF := Lib.hid (HFIN.out _ W4 _ hown4 hgrow4 (fun g' hg => by
            have e1 : g = g' := by simpa [Value.ownBlock] using hg
            subst e1
            refine hat4.imp id (fun e => ?_)
            have : g = wo.heap.size + 1 := by simpa using e
            have := HWS.out
            omega))
          clear hown4 hgrow4 hat4 hgl4 q1 q2
          go_wp2
          go_ret
          exact ⟨rfl, HF.out⟩))
end Go.Proofs.YtphapjbfaomblaaDoor
