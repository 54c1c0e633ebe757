/- The shelf's Show. -/
import Derived.Test.YtphapjbfaomblaaSN
import Derived.Test.YtphapjbfaomblaaSE
import Derived.Test.YtphapjbfaomblaaSF2
import Derived.Deep.RegionHeld3
namespace Go.Proofs.Ytphapjbfaomblaa
open Go Go.RowKit Go.Maps
def ShowPost (F : Nat → Prop) (sb : Nat) (R : Row Id) (x : Id) (q : Bool) (w : World) (e : Ending) (w' : World) : Prop :=
  e = .returned (.int .i64 (if x ∈ namesR R then 0 else 111)) ∧ ShelfAt w' F sb (if x ∈ namesR R then showR R x q else R) ∧ Touch F w w'
theorem blk_facts {w : World} {sb mp : Nat} {vb : Value} {pre post : List Bl} {ad g cap : Nat} {vi : Value} {n : Int} {R : Row Id} {D : DataW (Option Nat)} {t : Int}
    (h : ShIs w sb mp vb (pre ++ ⟨ad, vi, .slice (some ⟨g, 0, none⟩) R.length cap, n, R⟩ :: post) D t) {x : Id} (hx : x ∈ namesR R) {o : Bool} (ho : (R[ixR R x]'(ixR_lt.2 hx)).2 = o) :
    w.cell? ⟨ad, 0, none⟩ = some vi ∧ w.cell? ⟨ad, 1, none⟩ = some (.slice (some ⟨g, 0, none⟩) R.length cap) ∧ w.cell? ⟨g, ixR R x, none⟩ = some (.bool o) ∧ ∀ i, w.frozen? ⟨g, i, none⟩ = false := by
  have hb := h.bl _ (List.mem_append_right pre (List.mem_cons_self ..))
  have hk := ixR_lt.2 hx
  have hkS : ixR R x < (seenR R).length := by rw [seenR_len]; exact hk
  have hsn := hb.sn
  have hcell := hb.cell
  dsimp only at hsn hcell
  obtain ⟨g', cap', C, e, _, _, _, _, hg, _⟩ := own_parts hsn (by omega)
  injection e with e1 _ e3
  injection e1 with e1
  injection e1 with e1
  subst e1
  refine ⟨cell_of_row _ _ 0 _ _ _ hcell, cell_of_row _ _ 1 _ _ _ hcell, ?_, fun i => by simp [World.frozen?, hg]⟩
  have := cell_of_row _ _ (ixR R x) _ _ _ hg
  rw [this, boC_map]
  rw [List.getElem?_toArray, List.getElem?_append_left (by simpa using hkS), List.getElem?_map, List.getElem?_eq_getElem hkS]
  rw [← ho]
  simp [seenR]
set_option maxRecDepth 100000 in
set_option maxHeartbeats 4000000 in
theorem show_any {w : World} {F : Nat → Prop} {sb : Nat} {R0 : Row Id} (hA : ShelfAt w F sb R0) (hlen : R0.length ≤ 100000) (x : Id) (q : Bool) :
    Calls Try.prog 21 #[.pointer (some ⟨sb, 0, none⟩), idV x, .bool q] w (ShowPost F sb R0 x q w) := by
  have HA := Lib.hid hA
  obtain ⟨mp, vb, Bs, D, t, h, hT, hfF, hFl, hBn⟩ := hA
  obtain ⟨W0, hW0⟩ : ∃ W, w.alloc (.cells #[.int .i64 x.s.T, .int .i64 x.s.R, .int .i64 x.I] 33) = W := ⟨_, rfl⟩
  have hb0 : Below w.heap.size w W0 := by rw [← hW0]; exact (Below.refl _ w).alloc (Nat.le_refl _) _
  have hx0 : W0.heap[w.heap.size]? = some (.cells #[.int .i64 x.s.T, .int .i64 x.s.R, .int .i64 x.I] 33 (0, 0)) := by rw [← hW0]; exact heap_alloc_new w _
  have h0 := h.below hb0
  obtain ⟨bx, hbx⟩ : ∃ z, w.heap.size = z := ⟨_, rfl⟩
  rw [hbx] at hx0
  have c1 : W0.cell? ⟨sb, 1, none⟩ = some (.map (some mp)) := cell_of_row _ _ 1 _ _ _ h0.cell
  have g0 : W0.cell? ⟨bx, 0, none⟩ = some (.int .i64 x.s.T) := cell_of_row _ _ 0 _ _ _ hx0
  have g1 : W0.cell? ⟨bx, 1, none⟩ = some (.int .i64 x.s.R) := cell_of_row _ _ 1 _ _ _ hx0
  have g2 : W0.cell? ⟨bx, 2, none⟩ = some (.int .i64 x.I) := cell_of_row _ _ 2 _ _ _ hx0
  have hlk := (h0.below (Below.refl _ W0).drew).look hT.fm x
  have hlk' := h0.look hT.fm x
  unfold idV at hlk hlk'
  have HB0 := Lib.hid hb0
  have HW0 := Lib.hid hW0
  have HBX := Lib.hid hbx
  have HX0 := Lib.hid hx0
  have HS0 := Lib.hid h0
  have HT := Lib.hid hT
  have HFF := Lib.hid hfF
  have HFL := Lib.hid hFl
  clear h hfF hFl hW0 hb0 hx0 h0 hbx
  by_cases hx : x ∈ namesR R0
  · obtain ⟨pre, b, post, hBs, hxb, hxp, hin⟩ := inF_some (hT.row.symm ▸ hx)
    rw [hin] at hlk hlk'
    dsimp only [Option.getD_some, ptV] at hlk hlk'
    subst hBs
    have hbl := fun W (hW : Below W0.heap.size W0 W) => HS0.out.below hW
    have hcnt := hT.cnt b (by simp)
    obtain ⟨ad, vi, vs, n, R⟩ := b
    dsimp only at hxb hcnt
    have hkx := ixR_lt.2 hxb
    have hb0 := HS0.out.bl _ (List.mem_append_right pre (List.mem_cons_self ..))
    obtain ⟨Ai, ci, hvi, _, hcm⟩ := (Rd.of_own hb0.ids).form
    dsimp only at hvi
    subst hvi
    obtain ⟨g, cap, C, hvs, _, _, hnc, hcm2, _, _⟩ := own_parts hb0.sn (by dsimp only; omega)
    dsimp only at hvs hnc
    subst hvs
    unfold maxLen at hcm hcm2
    obtain ⟨o, ho⟩ : ∃ o, (R[ixR R x]'hkx).2 = o := ⟨_, rfl⟩
    have HFA := Lib.hid (fun W (hW : Below W0.heap.size W0 W) => blk_facts (hbl W hW) hxb ho)
    have hbxl : bx < W0.heap.size := (Array.getElem?_eq_some_iff.1 HX0.out).1
    have HXB := Lib.hid hxb
    have HXP := Lib.hid hxp
    have HX := Lib.hid hx
    have HO := Lib.hid ho
    have HN := Lib.hid hcnt
    have HI := Lib.hid (fun W (hW : Below W0.heap.size W0 W) => (show Calls Try.prog 29 #[.slice Ai R.length ci, idV x] W (fun e w' => (∃ r, e = .returned (.int .i64 r) ∧ AtIs (namesR R) x r) ∧ Grows W w') from
      index_any (namesR R) x Ai R.length ci W0.heap.size W ((Rd.of_own hb0.ids).below' hW (Nat.le_refl _)) hW.size))
    unfold idV at HI
    have HXo := Lib.hid (fun W (hW : Below W0.heap.size W0 W) => (show (W.cell? ⟨bx, 0, none⟩ = some (.int .i64 x.s.T) ∧ W.cell? ⟨bx, 1, none⟩ = some (.int .i64 x.s.R) ∧ W.cell? ⟨bx, 2, none⟩ = some (.int .i64 x.I)) ∧ W.cell? ⟨ad, 0, none⟩ = some (.slice Ai R.length ci) from
      ⟨⟨(hW.cell (p := ⟨bx, 0, none⟩) hbxl).trans g0, (hW.cell (p := ⟨bx, 1, none⟩) hbxl).trans g1, (hW.cell (p := ⟨bx, 2, none⟩) hbxl).trans g2⟩, (HFA.out W hW).1⟩))
    have k1 : Below W0.heap.size W0 W0.drew := (Below.refl _ W0).drew
    have k2 : Below W0.heap.size W0 W0.drew.drew := k1.drew
    clear hbl hcnt hxb hxp hin hb0 ho hT hx
    unfold idV
    go_enter Try.func21, Try.ntmps21
    go_wp2
    rw [HW0.out, HBX.out]
    go_region
    go_wp2
    go_region_held3 (fun W => (W.cell? ⟨bx, 0, none⟩ = some (.int .i64 x.s.T) ∧ W.cell? ⟨bx, 1, none⟩ = some (.int .i64 x.s.R) ∧ W.cell? ⟨bx, 2, none⟩ = some (.int .i64 x.I)) ∧ W.cell? ⟨ad, 0, none⟩ = some (.slice Ai R.length ci))
      (first | exact HXo.out _ (by assumption) | go_keep)
      (first | (go_at_call 29; refine (HI.out _ k2).mono ?_; rintro e w5 ⟨⟨r, rfl, hr⟩, hg5⟩; obtain rfl := at_ix hr HXB.out; have k3 := k2.trans (hg5.below.mono k2.size); clear hg5 hr))
    have H5 := Lib.hid (HS0.out.below k3)
    have K3 := Lib.hid k3
    have hlt := ixR_lt.2 HXB.out
    have e1 : (0 : Int) ≤ (ixR R x : Int) := by omega
    have e2 : (ixR R x : Int) < (R.length : Int) := by omega
    have hall := HT.out.all
    have hc0 := cntR_le R0
    have hc1 := cntR_le R
    have hrl : R.length ≤ R0.length := by
      have := congrArg List.length HT.out.row
      rw [rowOf_app, rowOf_cons] at this
      simp only [List.length_append] at this
      omega
    have hset : cntR (showR R x q) + o.toNat = cntR R + q.toNat := by
      have := cntR_set (R := R) hlt x q
      rw [HO.out] at this
      exact this
    have HAD := Lib.hid (fun k (h1 : -1 ≤ k ∧ k ≤ 1) => add_any (k := k) H5.out h1 (by omega) (by have := HN.out; dsimp only at this ⊢; omega))
    clear k1 k2 k3 hlk hlk' c1 g0 g1 g2 hbxl hnc hcm hcm2
    have hset2 : cntR (showR R0 x q) + o.toNat = cntR R0 + q.toNat := by
      have h0 : R0 = rowOf pre ++ (R ++ rowOf post) := by rw [← HT.out.row, rowOf_app, rowOf_cons]
      rw [h0, show_mid q HXP.out HXB.out, cntR_app, cntR_app, cntR_app, cntR_app]
      omega
    have HS1 := Lib.hid hset
    have HS2 := Lib.hid hset2
    have HAL := Lib.hid hall
    have T5 := Lib.hid (show Touch F w w5 from Below.touch (HB0.out.trans (K3.out.mono HB0.out.size)) F)
    have HFIN := Lib.hid (fun w6 n' t' h6 t6 hn' ht' => show_fin (w := w) (w6 := w6) (n' := n') (t' := t') (q := q) HT.out HFF.out HFL.out hBn HXP.out HXB.out h6 t6 hn' ht')
    clear hset hset2 hall hc0 hc1 hrl
    cases q <;> cases o
    · obtain ⟨f0, f1, f2, f3⟩ := HFA.out w5 K3.out
      go_wp2
      go_ret
      have hf := HFIN.out w5 _ _ H5.out T5.out (by have := HS1.out; have := HN.out; simp at *; omega) (by have := HS2.out; have := HAL.out; simp at *; omega)
      exact ⟨by rw [if_pos HX.out]; rfl, by rw [if_pos HX.out]; exact hf.1, hf.2⟩
    · obtain ⟨f0, f1, f2, f3⟩ := HFA.out w5 K3.out
      go_wp2_with (go_at_call 27; refine (HAD.out (-1) (by omega)).mono ?_; rintro e w6 ⟨⟨v, rfl⟩, h6, t6⟩; obtain ⟨z0, z1, z2, z3⟩ := blk_facts h6 HXB.out HO.out; have H6 := Lib.hid h6; have T6 := Lib.hid t6; clear h6 t6)
      go_ret
      have hf := HFIN.out w6 _ _ H6.out (T5.out.trans T6.out (fun y _ hy => hy.elim (fun e => e ▸ HFF.out ad (.inr (.inr (.inr ⟨_, List.mem_append_right pre (List.mem_cons_self ..), .inl rfl⟩)))) (fun e => e ▸ HFF.out sb (.inl rfl)))) (by have := HS1.out; have := HN.out; simp at *; omega) (by have := HS2.out; have := HAL.out; simp at *; omega)
      exact ⟨by rw [if_pos HX.out]; rfl, by rw [if_pos HX.out]; exact hf.1, hf.2⟩
    · obtain ⟨f0, f1, f2, f3⟩ := HFA.out w5 K3.out
      go_wp2_with (go_at_call 27; refine (HAD.out (1) (by omega)).mono ?_; rintro e w6 ⟨⟨v, rfl⟩, h6, t6⟩; obtain ⟨z0, z1, z2, z3⟩ := blk_facts h6 HXB.out HO.out; have H6 := Lib.hid h6; have T6 := Lib.hid t6; clear h6 t6)
      go_ret
      have hf := HFIN.out w6 _ _ H6.out (T5.out.trans T6.out (fun y _ hy => hy.elim (fun e => e ▸ HFF.out ad (.inr (.inr (.inr ⟨_, List.mem_append_right pre (List.mem_cons_self ..), .inl rfl⟩)))) (fun e => e ▸ HFF.out sb (.inl rfl)))) (by have := HS1.out; have := HN.out; simp at *; omega) (by have := HS2.out; have := HAL.out; simp at *; omega)
      exact ⟨by rw [if_pos HX.out]; rfl, by rw [if_pos HX.out]; exact hf.1, hf.2⟩
    · obtain ⟨f0, f1, f2, f3⟩ := HFA.out w5 K3.out
      go_wp2
      go_ret
      have hf := HFIN.out w5 _ _ H5.out T5.out (by have := HS1.out; have := HN.out; simp at *; omega) (by have := HS2.out; have := HAL.out; simp at *; omega)
      exact ⟨by rw [if_pos HX.out]; rfl, by rw [if_pos HX.out]; exact hf.1, hf.2⟩
  · have hin := inF_none (Bs := Bs) (x := x) (by rw [hT.row]; exact hx)
    rw [hin] at hlk hlk'
    dsimp only [Option.getD_none, ptV] at hlk hlk'
    have HX := Lib.hid hx
    clear hin hT hx
    unfold idV
    go_enter Try.func21, Try.ntmps21
    go_wp2
    rw [HW0.out, HBX.out]
    go_region
    go_wp2
    go_ret
    unfold ShowPost
    rw [if_neg HX.out, if_neg HX.out]
    exact ⟨rfl, HA.out.below HB0.out.drew, Below.touch HB0.out.drew F⟩
end Go.Proofs.Ytphapjbfaomblaa
