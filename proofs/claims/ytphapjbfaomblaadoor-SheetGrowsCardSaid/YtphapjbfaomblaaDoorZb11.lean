/- Texts of this seat, one behind the other: SH, QH. -/
import Derived.Test.YtphapjbfaomblaaDoorZb10
import Derived.BigRegion
import Derived.StillTail
import Derived.Deep.RegionHeld
/- The shelf's part. -/
namespace Go.Proofs.YtphapjbfaomblaaDoor
open Go Go.RowKit Go.Maps
theorem own_tight {H : Type} {P : Program} {w : World} {k : TypeId} {R : Value → Option (DataW H × List MemPlace)} {m n : Nat} {D : DataW H} (h : w.ownsMap P k R m n D) : w.ownsMap P k R m (Maps.size D) D := by
  obtain ⟨es, clock, h1, F, hs, rfl⟩ := h
  refine ⟨es, clock, h1, F, ?_, rfl⟩
  rw [size_eq, length_sorted]
  simp
theorem inF_split {pre post : List Bl} {b : Bl} {x : Id} : inF (pre ++ b :: post) x = (inF pre x).or (if x ∈ namesR b.R then some (some b.ad) else inF post x) := by
  unfold inF
  rw [List.find?_append, List.find?_cons]
  by_cases h : x ∈ namesR b.R
  · cases hp : List.find? (fun b => decide (x ∈ namesR b.R)) pre <;> simp [h]
  · cases hp : List.find? (fun b => decide (x ∈ namesR b.R)) pre <;> simp [h]
def PartPost (sb mp : Nat) (vb : Value) (pre : List Bl) (b : Bl) (post : List Bl) (t : Int) (R : Row Id) (w : World) (e : Ending) (w' : World) : Prop :=
  (∃ v, e = .returned v) ∧ ∃ vb' b1 b2 D', ShIs w' sb mp vb' (pre ++ b1 :: b2 :: post) D' t ∧ Tidy (pre ++ b1 :: b2 :: post) D' t R ∧ Touch (foot sb mp vb (pre ++ b :: post)) w w' ∧ ∀ x, foot sb mp vb' (pre ++ b1 :: b2 :: post) x → foot sb mp vb (pre ++ b :: post) x ∨ w.heap.size ≤ x
theorem bl_below {w w' : World} {b : Bl} (h : BlIs w b) (hb : Below w.heap.size w w') : BlIs w' b := h.touch (Below.touch hb (fun _ => False)) (fun _ _ h => h)
theorem own_base0 {w : World} {b : Nat} {e : TypeId} {K n : Nat} {v : Value} {xs : List Value} (h : w.ownsRow b e K v n xs) : w.ownsRow 0 e K v n xs :=
  ⟨h.1, h.2.elim .inl (fun ⟨g, cap, cur, h1, _, h3⟩ => .inr ⟨g, cap, cur, h1, Nat.zero_le _, h3⟩)⟩
/-- the loop's: what is told of the new block's first ids -/
def PaRelS (sb mp cad : Nat) (vb c1 c2 : Value) (Bs : List Bl) (t : Int) (Q : Row Id) (n : Nat) (W3 : World) (i : Value) (wr : World) : Prop :=
  ∃ (j : Nat) (D : DataW (Option Nat)), j ≤ Q.length ∧ i = .int .i64 j ∧ ShIs wr sb mp vb Bs D t ∧ BlIs wr ⟨cad, c1, c2, cntR (Q.take j), Q⟩ ∧ FMap idK (fun s => if s ∈ namesR (Q.take j) then some (some cad) else inF Bs s) D ∧ Maps.size D = n ∧ Touch (fun x => x = mp ∨ x = cad) W3 wr
set_option maxRecDepth 100000 in
set_option maxHeartbeats 8000000 in
theorem part_any {w : World} {sb mp : Nat} {vb : Value} {pre : List Bl} {b : Bl} {post : List Bl} {D : DataW (Option Nat)} {t : Int} {R0 : Row Id} (h : ShIs w sb mp vb (pre ++ b :: post) D t) (hT : Tidy (pre ++ b :: post) D t R0) (hl : 32 < b.R.length) (hlen : R0.length ≤ 100000) (hBl : (pre ++ b :: post).length ≤ 100000) :
    Calls Tryd.prog 85 #[.pointer (some ⟨sb, 0, none⟩), .int .i64 pre.length] w (PartPost sb mp vb pre b post t R0 w) := by
  have hbm := h.bl b (by simp)
  have hbR : b.R.length ≤ R0.length := by rw [← hT.row, rowOf_app, rowOf_cons]; simp only [List.length_append]; omega
  have hcn := hT.cnt b (by simp)
  obtain ⟨Av, cv, rfl, hnc0, hcm0⟩ := (Rd.of_own h.row).form
  unfold maxLen at hcm0
  have hi : pre.length < (pre ++ b :: post).length := by simp
  obtain ⟨g, cap, e1, c1, _⟩ := h.at hi
  injection e1 with e1 _ e3
  subst e1; subst e3
  have hget : (pre ++ b :: post)[pre.length] = b := by simp
  rw [hget] at c1
  obtain ⟨ad, vi, vs, n, R⟩ := b
  dsimp only at hl hbR hcn c1
  subst hcn
  obtain ⟨gi, ci, Ri, hvi, _, _, hci1, hci2, _, _⟩ := own_parts hbm.ids (show 0 < R.length by omega)
  obtain ⟨gs, cs, Rs, hvs, _, _, hcs1, hcs2, _, _⟩ := own_parts hbm.sn (show 0 < R.length by omega)
  dsimp only at hvi hvs hci1 hcs1
  subst hvi; subst hvs
  unfold maxLen at hci2 hcs2
  have c0 : w.cell? ⟨sb, 0, none⟩ = some (.slice (some ⟨g, 0, none⟩) (pre ++ (⟨ad, .slice (some ⟨gi, 0, none⟩) R.length ci, .slice (some ⟨gs, 0, none⟩) R.length cs, (cntR R : Nat), R⟩ : Bl) :: post).length cv) := cell_of_row _ _ 0 _ _ _ h.cell
  have d0 : w.cell? ⟨ad, 0, none⟩ = some (.slice (some ⟨gi, 0, none⟩) R.length ci) := cell_of_row _ _ 0 _ _ _ hbm.cell
  have d1 : w.cell? ⟨ad, 1, none⟩ = some (.slice (some ⟨gs, 0, none⟩) R.length cs) := cell_of_row _ _ 1 _ _ _ hbm.cell
  have hadl : ad < w.heap.size := kind_lt (kind_cell hbm.cell)
  obtain ⟨Bn, hBn⟩ : ∃ z, (pre ++ (⟨ad, .slice (some ⟨gi, 0, none⟩) R.length ci, .slice (some ⟨gs, 0, none⟩) R.length cs, (cntR R : Nat), R⟩ : Bl) :: post).length = z := ⟨_, rfl⟩
  rw [hBn] at c0 hi hBl
  -- the halves to be copied
  have hRi := hbm.ids
  have hRs := hbm.sn
  dsimp only at hRi hRs
  have hrdI : Rd w w.heap.size 3 (.slice (some ⟨gi, 16 * 3, none⟩) (R.length - 16) (ci - 16)) (R.length - 16) ((namesR (R.drop 16)).flatMap idC) := by
    refine ⟨by rw [flatl idC 3 (fun _ => rfl), names_len, List.length_drop], some ⟨gi, 16 * 3, none⟩, ci - 16, rfl, by omega, by unfold maxLen; omega, fun _ => ⟨gi, 16 * 3, rfl, own_lt hRi gi rfl, fun j u hu => ?_⟩⟩
    have hsp : (namesR R).flatMap idC = (namesR (R.take 16)).flatMap idC ++ (namesR (R.drop 16)).flatMap idC := by rw [← List.flatMap_append, ← names_app, List.take_append_drop]
    have hl16 : ((namesR (R.take 16)).flatMap idC).length = 16 * 3 := by rw [flatl idC 3 (fun _ => rfl), names_len, List.length_take]; omega
    refine (own_cell hRi (16 * 3 + j) u ?_).1
    rw [hsp, List.getElem?_append_right (by omega), hl16, Nat.add_sub_cancel_left]
    exact hu
  have hrdS : Rd w w.heap.size 1 (.slice (some ⟨gs, 16, none⟩) (R.length - 16) (cs - 16)) (R.length - 16) ((seenR (R.drop 16)).flatMap boC) := by
    refine ⟨by rw [flatl boC 1 (fun _ => rfl), seenR_len, List.length_drop], some ⟨gs, 16, none⟩, cs - 16, rfl, by omega, by unfold maxLen; omega, fun _ => ⟨gs, 16, rfl, own_lt hRs gs rfl, fun j u hu => ?_⟩⟩
    have hsp : (seenR R).flatMap boC = (seenR (R.take 16)).flatMap boC ++ (seenR (R.drop 16)).flatMap boC := by rw [← List.flatMap_append]; congr 1; simp [seenR]
    have hl16 : ((seenR (R.take 16)).flatMap boC).length = 16 := by rw [flatl boC 1 (fun _ => rfl), seenR_len, List.length_take]; omega
    refine (own_cell hRs (16 + j) u ?_).1
    rw [hsp, List.getElem?_append_right (by omega), hl16, Nat.add_sub_cancel_left]
    exact hu
  have HRI := Lib.hid (fun W (hW : Below w.heap.size w W) => clone_ids (namesR (R.drop 16)) ⟨gi, 16 * 3, none⟩ (R.length - 16) (ci - 16) w.heap.size W (hrdI.below' hW (Nat.le_refl _)) (by rw [names_len, List.length_drop]; omega) hW.size)
  have HRS := Lib.hid (fun W (hW : Below w.heap.size w W) => clone_bools (seenR (R.drop 16)) ⟨gs, 16, none⟩ (R.length - 16) (cs - 16) w.heap.size W (hrdS.below' hW (Nat.le_refl _)) (by rw [seenR_len, List.length_drop]; omega) hW.size)
  have HC := Lib.hid (fun W (hW : Below w.heap.size w W) => (show W.cell? ⟨ad, 0, none⟩ = some (.slice (some ⟨gi, 0, none⟩) R.length ci) ∧ W.cell? ⟨ad, 1, none⟩ = some (.slice (some ⟨gs, 0, none⟩) R.length cs) from
    ⟨(hW.cell (p := ⟨ad, 0, none⟩) hadl).trans d0, (hW.cell (p := ⟨ad, 1, none⟩) hadl).trans d1⟩))
  obtain ⟨rl, hrl⟩ : ∃ z, R.length = z := ⟨_, rfl⟩
  have HS := Lib.hid h
  have HT := Lib.hid hT
  have HRL := Lib.hid hrl
  have HBN := Lib.hid hBn
  rw [hrl] at HRI HRS HC hl hbR hci1 hcs1
  have i1 : (16 : Int) ≤ (rl : Int) := by omega
  have i2 : ¬ ci = 16 := by omega
  have i3 : ¬ cs = 16 := by omega
  have i4 : (rl : Int) ≤ (ci : Int) := by omega
  have i5 : (rl : Int) ≤ (cs : Int) := by omega
  have i6 : (0 : Int) ≤ (pre.length : Int) := by omega
  have i7 : (pre.length : Int) < (Bn : Int) := by omega
  have hw16 : IntKind.i64.wrap (16 : Int) = 16 := rfl
  have k1 : Below w.heap.size w w.drew := (Below.refl _ w).drew
  clear h hT hbm hget hRi hRs hrdI hrdS hrl hBn d0 d1
  generalize hPP : PartPost sb mp _ pre _ post t R0 w = PP
  have HPP := Lib.hid hPP
  clear hPP
  go_enter Tryd.func85, Tryd.ntmps85
  go_wp2
  go_region_held3 (fun W => W.cell? ⟨ad, 0, none⟩ = some (.slice (some ⟨gi, 0, none⟩) rl ci) ∧ W.cell? ⟨ad, 1, none⟩ = some (.slice (some ⟨gs, 0, none⟩) rl cs))
    (first | exact HC.out _ (by assumption) | go_keep)
    (first
      | (go_at_call 96; refine (HRI.out _ k1).mono ?_; rintro e wa ⟨v1, rfl, ho1, hba⟩; obtain ⟨g1, cp1, R1, hv1, _⟩ := own_parts ho1 (by rw [names_len, List.length_drop, HRL.out]; omega); subst hv1; rw [names_len, List.length_drop, HRL.out] at ho1 ⊢; have k2 := k1.trans (hba.mono k1.size))
      | (go_at_call 97; refine (HRS.out _ k2).mono ?_; rintro e wb ⟨v2, rfl, ho2, hbb⟩; obtain ⟨g2, cp2, R2, hv2, _⟩ := own_parts ho2 (by rw [seenR_len, List.length_drop, HRL.out]; omega); subst hv2; rw [seenR_len, List.length_drop, HRL.out] at ho2 ⊢; have k3 := k2.trans (hbb.mono k2.size)))
  have hQl : (R.drop 16).length = rl - 16 := by rw [List.length_drop, HRL.out]
  obtain ⟨Q, hQ⟩ : ∃ Q, R.drop 16 = Q := ⟨_, rfl⟩
  rw [hQ] at ho1 ho2 hQl
  have hcb := heap_alloc_new wb (.cells #[.slice (some ⟨g1, 0, none⟩) (rl - 16) cp1, .slice (some ⟨g2, 0, none⟩) (rl - 16) cp2, .int .i64 0] 132)
  obtain ⟨W3, hW3⟩ : ∃ W, wb.alloc (.cells #[.slice (some ⟨g1, 0, none⟩) (rl - 16) cp1, .slice (some ⟨g2, 0, none⟩) (rl - 16) cp2, .int .i64 0] 132) = W := ⟨_, rfl⟩
  have k4 : Below w.heap.size w W3 := by rw [← hW3]; exact k3.alloc k3.size _
  have hg1 : w.heap.size ≤ g1 := (ho1.lt g1 rfl).1
  have hg2 : w.heap.size ≤ g2 := Nat.le_trans k2.size (ho2.lt g2 rfl).1
  have ho1' : W3.ownsRow 0 26 3 (.slice (some ⟨g1, 0, none⟩) (rl - 16) cp1) (rl - 16) ((namesR Q).flatMap idC) := by rw [← hW3]; exact (own_base0 (own_grows ho1 hbb)).alloc _
  have ho2' : W3.ownsRow 0 4 1 (.slice (some ⟨g2, 0, none⟩) (rl - 16) cp2) (rl - 16) ((seenR Q).flatMap boC) := by rw [← hW3]; exact (own_base0 ho2).alloc _
  obtain ⟨cad, hcad⟩ : ∃ z, wb.heap.size = z := ⟨_, rfl⟩
  have hcadw : w.heap.size ≤ cad := by rw [← hcad]; exact k3.size
  rw [hW3] at hcb
  rw [hcad] at hcb
  have HC3 : BlIs W3 ⟨cad, .slice (some ⟨g1, 0, none⟩) (rl - 16) cp1, .slice (some ⟨g2, 0, none⟩) (rl - 16) cp2, 0, Q⟩ := ⟨hcb, by rw [hQl]; exact ho1', by rw [hQl]; exact ho2'⟩
  have e0 : W3.cell? ⟨cad, 0, none⟩ = some (.slice (some ⟨g1, 0, none⟩) (rl - 16) cp1) := cell_of_row _ _ 0 _ _ _ hcb
  have HC3h := Lib.hid HC3
  have HS3 := Lib.hid (HS.out.below k4)
  have HK4 := Lib.hid k4
  have HQ := Lib.hid hQ
  have HQL := Lib.hid hQl
  rw [hW3, hcad]
  clear ho1 ho2 hcb hW3 ho1' ho2' HC3 k1 k2 k3 k4 hba hbb hQ HRI HRS HC c0 c1 hcad hQl
  go_wp2
  clear e0
  go_loopw [37] (fun i wr => PaRelS sb mp cad (.slice (some ⟨g, 0, none⟩) (pre ++ (⟨ad, .slice (some ⟨gi, 0, none⟩) R.length ci, .slice (some ⟨gs, 0, none⟩) R.length cs, (cntR R : Nat), R⟩ : Bl) :: post).length cv) (.slice (some ⟨g1, 0, none⟩) (rl - 16) cp1) (.slice (some ⟨g2, 0, none⟩) (rl - 16) cp2) (pre ++ (⟨ad, .slice (some ⟨gi, 0, none⟩) R.length ci, .slice (some ⟨gs, 0, none⟩) R.length cs, (cntR R : Nat), R⟩ : Bl) :: post) t Q R0.length W3 i wr) (fun i _ => Q.length - (intOf i).toNat)
  case atStart => exact ⟨0, D, Nat.zero_le _, rfl, HS3.out, HC3h.out, HT.out.fm.congr (fun s => by rw [List.take_zero]; simp [namesR]), HT.out.size, Touch.refl _ _⟩
  case round =>
    obtain ⟨j, Dj, hj, rfl, hSj, hCj, hFj, hDj, hTj⟩ := hrel
    obtain ⟨wr1, rfl⟩ : ∃ W : World, W = wr := ⟨_, rfl⟩
    have hQl := HQL.out
    by_cases hjl : j < Q.length
    · have hnj : j < (namesR Q).length := by rw [names_len]; exact hjl
      have hsj : j < (seenR Q).length := by rw [seenR_len]; exact hjl
      have hid : ∀ (r : Nat) (u : Value), (idC (Q[j]).1)[r]? = some u → wr1.cell? ⟨g1, j * 3 + r, none⟩ = some u := fun r u hu => by
        have hr : r < 3 := by have := (List.getElem?_eq_some_iff.1 hu).1; exact this
        have hi' := hCj.ids
        rw [hQl] at hi'
        refine (own_cell hi' (j * 3 + r) u ?_).1
        rw [flat_at idC 3 (fun _ => rfl) (namesR Q) j hnj r hr]
        simpa [namesR] using hu
      have hbo : wr1.cell? ⟨g2, j, none⟩ = some (.bool (Q[j]).2) := by
        have hi' := hCj.sn
        rw [hQl] at hi'
        refine (own_cell hi' j _ ?_).1
        have := flat_at boC 1 (fun _ => rfl) (seenR Q) j hsj 0 (by decide)
        rw [Nat.mul_one, Nat.add_zero] at this
        rw [this]
        simp [seenR, boC]
      have htk : Q.take (j + 1) = Q.take j ++ [Q[j]] := List.take_succ_eq_append_getElem hjl
      have hcs : cntR (Q.take (j + 1)) = cntR (Q.take j) + (Q[j]).2.toNat := cntR_take_succ hjl
      obtain ⟨⟨x, q⟩, hxq⟩ : ∃ p, Q[j] = p := ⟨_, rfl⟩
      rw [hxq] at hid hbo htk hcs
      dsimp only at hid hbo hcs
      -- the box
      obtain ⟨W5, hW5⟩ : ∃ W, wr1.alloc (.cells #[.int .i64 x.s.T, .int .i64 x.s.R, .int .i64 x.I] 26) = W := ⟨_, rfl⟩
      have hb5 : Below wr1.heap.size wr1 W5 := by rw [← hW5]; exact (Below.refl _ wr1).alloc (Nat.le_refl _) _
      have hx5 : W5.heap[wr1.heap.size]? = some (.cells #[.int .i64 x.s.T, .int .i64 x.s.R, .int .i64 x.I] 26 (0, 0)) := by rw [← hW5]; exact heap_alloc_new wr1 _
      have h5d := (hSj.below hb5).below (Below.refl _ W5).drew
      have hc5 := bl_below hCj hb5
      have hlt5 : Maps.size Dj < maxLen := by rw [hDj]; unfold maxLen; omega
      obtain ⟨w6, hup, hm6, hg6⟩ := h5d.map.update keyed26 Tryd.underlying120 hlt5 (ok26.val x) (objElem_mk ptV_inj (some cad))
      have t6 : Touch (fun y => y = mp) W5.drew w6 := (Touch.refl (fun y => y = mp) W5.drew).grown hg6 (fun y hy _ => by injection hy with hy; exact hy.symm)
      have h6 := h5d.remap t6 (own_tight hm6)
      have hkm := kind_map h5d.map
      have hc6 : BlIs w6 ⟨cad, .slice (some ⟨g1, 0, none⟩) (rl - 16) cp1, .slice (some ⟨g2, 0, none⟩) (rl - 16) cp2, cntR (Q.take j), Q⟩ := (bl_below hc5 (Below.refl _ W5).drew).touch t6 (fun y hy e => by
        have hc5' := bl_below hc5 (Below.refl _ W5).drew
        rcases hy with hy | hy | hy
        · exact ne_kind (kind_cell hc5'.cell) hkm (by decide) (hy ▸ e)
        · exact ne_kind (kind_row hc5'.ids hy) hkm (by decide) e
        · exact ne_kind (kind_row hc5'.sn hy) hkm (by decide) e)
      have hF6 : FMap idK (fun s => if s ∈ namesR (Q.take (j + 1)) then some (some cad) else inF (pre ++ (⟨ad, .slice (some ⟨gi, 0, none⟩) R.length ci, .slice (some ⟨gs, 0, none⟩) R.length cs, (cntR R : Nat), R⟩ : Bl) :: post) s) (Dj.put (idK x) (.held (some cad))) :=
        (hFj.put ok26 h5d.map.isMap x (some cad)).congr (fun s => by
          rw [htk, names_app]
          have hm : s ∈ namesR (Q.take j) ++ namesR [(x, q)] ↔ s ∈ namesR (Q.take j) ∨ s = x := by simp [namesR]
          by_cases hsx : s = x
          · rw [if_pos hsx, if_pos (hm.2 (.inr hsx))]
          · rw [if_neg hsx]
            by_cases hs : s ∈ namesR (Q.take j)
            · rw [if_pos hs, if_pos (hm.2 (.inl hs))]
            · rw [if_neg hs, if_neg (fun h => (hm.1 h).elim hs hsx)])
      have hxR : x ∈ namesR R0 := by
        rw [← HT.out.row, rowOf_app, rowOf_cons, names_app, names_app]
        refine List.mem_append_right _ (List.mem_append_left _ ?_)
        refine List.mem_map.2 ⟨(x, q), ?_, rfl⟩
        have : (x, q) ∈ Q := by rw [← hxq]; exact List.getElem_mem hjl
        rw [← HQ.out] at this
        exact List.mem_of_mem_drop this
      have hD6 : Maps.size (Dj.put (idK x) (.held (some cad))) = R0.length := by
        rw [size_put (h5d.map.tidy keyed26), hFj.has, hDj]
        have : (if x ∈ namesR (Q.take j) then some (some cad) else inF (pre ++ (⟨ad, .slice (some ⟨gi, 0, none⟩) R.length ci, .slice (some ⟨gs, 0, none⟩) R.length cs, (cntR R : Nat), R⟩ : Bl) :: post) x).isSome = true := by
          split
          · rfl
          · obtain ⟨_, b', _, _, _, _, hin⟩ := inF_some (Bs := pre ++ (⟨ad, .slice (some ⟨gi, 0, none⟩) R.length ci, .slice (some ⟨gs, 0, none⟩) R.length cs, (cntR R : Nat), R⟩ : Bl) :: post) (x := x) (by rw [HT.out.row]; exact hxR)
            rw [hin]; rfl
        rw [this]
        rfl
      have hT6 : Touch (fun y => y = mp ∨ y = cad) W3 w6 := by
        have e1 : Touch (fun y => y = mp ∨ y = cad) W3 W5 := by rw [← hW5]; exact hTj.alloc _
        exact e1.drew.trans t6 (fun y _ h => .inl h)
      have H6 := Lib.hid h6
      have HC6 := Lib.hid hc6
      have HF6 := Lib.hid hF6
      have HD6 := Lib.hid hD6
      have HT6 := Lib.hid hT6
      have HCS := Lib.hid hcs
      have hcq := cntR_le (Q.take j)
      rw [List.length_take] at hcq
      have i10 : (0 : Int) ≤ (j : Int) := by omega
      have i11 : (j : Int) < ((rl - 16 : Nat) : Int) := by omega
      have q0 : wr1.cell? ⟨g1, j * 3, none⟩ = some (.int .i64 x.s.T) := hid 0 _ rfl
      have q1 : wr1.cell? ⟨g1, j * 3 + 1, none⟩ = some (.int .i64 x.s.R) := hid 1 _ rfl
      have q2 : wr1.cell? ⟨g1, j * 3 + 2, none⟩ = some (.int .i64 x.I) := hid 2 _ rfl
      have r0 : W5.cell? ⟨sb, 1, none⟩ = some (.map (some mp)) := cell_of_row _ _ 1 _ _ _ (hSj.below hb5).cell
      have r1 : W5.cell? ⟨wr1.heap.size, 0, none⟩ = some (.int .i64 x.s.T) := cell_of_row _ _ 0 _ _ _ hx5
      have r2 : W5.cell? ⟨wr1.heap.size, 1, none⟩ = some (.int .i64 x.s.R) := cell_of_row _ _ 1 _ _ _ hx5
      have r3 : W5.cell? ⟨wr1.heap.size, 2, none⟩ = some (.int .i64 x.I) := cell_of_row _ _ 2 _ _ _ hx5
      have s0 : w6.cell? ⟨cad, 1, none⟩ = some (.slice (some ⟨g2, 0, none⟩) (rl - 16) cp2) := cell_of_row _ _ 1 _ _ _ hc6.cell
      have s1 : w6.cell? ⟨g2, j, none⟩ = some (.bool q) := by
        have hi' := hc6.sn
        rw [hQl] at hi'
        refine (own_cell hi' j _ ?_).1
        have := flat_at boC 1 (fun _ => rfl) (seenR Q) j hsj 0 (by decide)
        rw [Nat.mul_one, Nat.add_zero] at this
        rw [this]
        simp [seenR, boC, hxq]
      have s2 : w6.cell? ⟨cad, 2, none⟩ = some (.int .i64 (cntR (Q.take j) : Nat)) := cell_of_row _ _ 2 _ _ _ hc6.cell
      have s3 : ∀ i, w6.frozen? ⟨cad, i, none⟩ = false := fun i => by simp [World.frozen?, hc6.cell]
      unfold idV ptV at hup
      have HW5 := Lib.hid hW5
      obtain ⟨ct, hct⟩ : ∃ z, cntR (Q.take j) = z := ⟨_, rfl⟩
      rw [hct] at s2 hcq
      have HCT := Lib.hid hct
      have a1 : IntKind.i64.wrap ((ct : Int) + 1) = ((ct + 1 : Nat) : Int) := by rw [IntWalk.i64_in _ (by omega)]; omega
      have hcnt6 : ∀ (W : World) (n' : Int), W.heap[cad]? = some (.cells #[.slice (some ⟨g1, 0, none⟩) (rl - 16) cp1, .slice (some ⟨g2, 0, none⟩) (rl - 16) cp2, .int .i64 n'] 132 (0, 0)) → Touch (fun y => y = cad) w6 W → BlIs W ⟨cad, .slice (some ⟨g1, 0, none⟩) (rl - 16) cp1, .slice (some ⟨g2, 0, none⟩) (rl - 16) cp2, n', Q⟩ := fun W n' hc ht =>
        ⟨hc, own_touch hc6.ids ht (fun y hy => ne_kind (kind_row hc6.ids hy) (kind_cell hc6.cell) (by decide)), own_touch hc6.sn ht (fun y hy => ne_kind (kind_row hc6.sn hy) (kind_cell hc6.cell) (by decide))⟩
      have HCN6 := Lib.hid hcnt6
      have hncad : ∀ y, foot sb mp (.slice (some ⟨g, 0, none⟩) (pre ++ (⟨ad, .slice (some ⟨gi, 0, none⟩) R.length ci, .slice (some ⟨gs, 0, none⟩) R.length cs, (cntR R : Nat), R⟩ : Bl) :: post).length cv) (pre ++ (⟨ad, .slice (some ⟨gi, 0, none⟩) R.length ci, .slice (some ⟨gs, 0, none⟩) R.length cs, (cntR R : Nat), R⟩ : Bl) :: post) y → ¬ y = cad := fun y hy e => by
        have := HS.out.lt hy
        omega
      have HNC := Lib.hid hncad
      clear hSj hCj hFj hDj hTj hid hbo htk hcs hxq hW5 hb5 hx5 h5d hc5 hlt5 hm6 hg6 t6 h6 hkm hc6 hF6 hxR hD6 hT6 hct hcnt6 hncad hnj hsj
      cases q
      · have HCT1 := Lib.hid (show cntR (Q.take (j + 1)) = ct from by rw [HCS.out, HCT.out]; rfl)
        go_wp2
        rw [HW5.out]
        go_region
        go_wp2
        go_roundw
        case rel => exact ⟨j + 1, _, by omega, by go_num, H6.out, by rw [HCT1.out, ← HCT.out]; exact HC6.out, HF6.out, HD6.out, HT6.out⟩
        case measure => simp [intOf]; omega
      · have HCT1 := Lib.hid (show cntR (Q.take (j + 1)) = ct + 1 from by rw [HCS.out, HCT.out]; rfl)
        have hc7 := (heap_setCell3 HC6.out.cell (.int .i64 ((ct + 1 : Nat) : Int))).2.2
        have ht7 := touch_set w6 cad 2 (.int .i64 ((ct + 1 : Nat) : Int))
        have HC7 := Lib.hid (HCN6.out _ _ hc7 ht7)
        have HS7 := Lib.hid (H6.out.touch ht7 HNC.out)
        have HT7 := Lib.hid (HT6.out.trans ht7 (fun y _ h => .inr h))
        clear hc7 ht7
        go_wp2
        rw [HW5.out]
        go_region
        go_wp2
        go_roundw
        case rel => exact ⟨j + 1, _, by omega, by go_num, HS7.out, by rw [HCT1.out]; exact HC7.out, HF6.out, HD6.out, HT7.out⟩
        case measure => simp [intOf]; omega
    · obtain rfl : j = Q.length := by omega
      rw [List.take_length] at hCj hFj
      have hRQ : R = R.take 16 ++ Q := by rw [← HQ.out, List.take_append_drop]
      have hcR : cntR R = cntR (R.take 16) + cntR Q := by rw [← cntR_app, ← hRQ]
      have h16l : (R.take 16).length = 16 := by rw [List.length_take, HRL.out]; omega
      have hbj := hSj.bl _ (List.mem_append_right pre List.mem_cons_self)
      have hcell := hbj.cell
      dsimp only at hcell
      obtain ⟨wl, rfl⟩ : ∃ W : World, W = wr1 := ⟨_, rfl⟩
      -- behind the stores
      obtain ⟨Wz, hWz⟩ : ∃ W, (((wl.setCell ⟨ad, 0, none⟩ (.slice (some ⟨gi, 0, none⟩) 16 ci)).setCell ⟨ad, 1, none⟩ (.slice (some ⟨gs, 0, none⟩) 16 cs)).setCell ⟨ad, 2, none⟩ (.int .i64 (cntR (R.take 16) : Nat))).drew = W := ⟨_, rfl⟩
      have hzc : Wz.heap[ad]? = some (.cells #[.slice (some ⟨gi, 0, none⟩) 16 ci, .slice (some ⟨gs, 0, none⟩) 16 cs, .int .i64 (cntR (R.take 16) : Nat)] 132 (0, 0)) := by rw [← hWz]; exact set3_heapS (w := wl) hcell
      have htz : Touch (fun y => y = ad) wl Wz := by
        rw [← hWz]
        exact ((((Touch.refl (fun y => y = ad) wl).setCell (p := ⟨ad, 0, none⟩) (fun _ => rfl) _).setCell (p := ⟨ad, 1, none⟩) (fun _ => rfl) _).setCell (p := ⟨ad, 2, none⟩) (fun _ => rfl) _).drew
      have hcut1 : Wz.ownsRow 0 26 3 (.slice (some ⟨gi, 0, none⟩) 16 ci) (R.take 16).length ((namesR (R.take 16)).flatMap idC) := by
        have h1 := own_touch hbj.ids htz (fun y hy => ne_kind (kind_row hbj.ids hy) (kind_cell hcell) (by decide))
        dsimp only at h1
        have h2 := own_cutS h1 (m := 16) (by rw [HRL.out]; omega)
        rw [flat_take (f := idC) (k := 3) (fun _ => rfl), ← names_take] at h2
        rw [h16l]; exact h2
      have hcut2 : Wz.ownsRow 0 4 1 (.slice (some ⟨gs, 0, none⟩) 16 cs) (R.take 16).length ((seenR (R.take 16)).flatMap boC) := by
        have h1 := own_touch hbj.sn htz (fun y hy => ne_kind (kind_row hbj.sn hy) (kind_cell hcell) (by decide))
        dsimp only at h1
        have h2 := own_cutS h1 (m := 16) (by rw [HRL.out]; omega)
        rw [flat_take (f := boC) (k := 1) (fun _ => rfl)] at h2
        rw [h16l]
        rw [show seenR (R.take 16) = (seenR R).take 16 from by simp [seenR]]; exact h2
      have hz : ShIs Wz sb mp _ (pre ++ (⟨ad, .slice (some ⟨gi, 0, none⟩) 16 ci, .slice (some ⟨gs, 0, none⟩) 16 cs, (cntR (R.take 16) : Nat), R.take 16⟩ : Bl) :: post) Dj t :=
        hSj.change (b' := ⟨ad, .slice (some ⟨gi, 0, none⟩) 16 ci, .slice (some ⟨gs, 0, none⟩) 16 cs, (cntR (R.take 16) : Nat), R.take 16⟩) (htz.mono (fun y _ h => .inl h)) ⟨hzc, hcut1, hcut2⟩ rfl (.inl rfl) (.inl rfl)
      have hnad : ∀ y, blFoot ⟨cad, .slice (some ⟨g1, 0, none⟩) (rl - 16) cp1, .slice (some ⟨g2, 0, none⟩) (rl - 16) cp2, (cntR Q : Nat), Q⟩ y → ¬ y = ad := fun y hy e => by
        rcases hy with hy | hy | hy
        · dsimp only at hy; omega
        · simp [Value.ownBlock] at hy; omega
        · simp [Value.ownBlock] at hy; omega
      have hCz := hCj.touch htz hnad
      have hTz : Touch (foot sb mp (.slice (some ⟨g, 0, none⟩) (pre ++ (⟨ad, .slice (some ⟨gi, 0, none⟩) R.length ci, .slice (some ⟨gs, 0, none⟩) R.length cs, (cntR R : Nat), R⟩ : Bl) :: post).length cv) (pre ++ (⟨ad, .slice (some ⟨gi, 0, none⟩) R.length ci, .slice (some ⟨gs, 0, none⟩) R.length cs, (cntR R : Nat), R⟩ : Bl) :: post)) w Wz :=
        ((Below.touch HK4.out _).trans hTj (fun y hy h => h.elim (fun h => .inr (.inl h)) (fun h => by omega))).trans htz (fun y _ h => .inr (.inr (.inr ⟨_, List.mem_append_right pre List.mem_cons_self, .inl h⟩)))
      have HZ := Lib.hid hz
      have HCZ := Lib.hid hCz
      have HTZ := Lib.hid hTz
      have HFJ := Lib.hid hFj
      have HDJ := Lib.hid hDj
      have HRQ := Lib.hid hRQ
      have HWZ := Lib.hid hWz
      have hcle := cntR_le R
      obtain ⟨cr, hcr⟩ : ∃ z, cntR R = z := ⟨_, rfl⟩
      obtain ⟨cq, hcq⟩ : ∃ z, cntR Q = z := ⟨_, rfl⟩
      obtain ⟨c16, hc16⟩ : ∃ z, cntR (R.take 16) = z := ⟨_, rfl⟩
      have m0 : wl.cell? ⟨ad, 0, none⟩ = some (.slice (some ⟨gi, 0, none⟩) rl ci) := by rw [← HRL.out]; exact cell_of_row _ _ 0 _ _ _ hcell
      have m1 : wl.cell? ⟨ad, 1, none⟩ = some (.slice (some ⟨gs, 0, none⟩) rl cs) := by rw [← HRL.out]; exact cell_of_row _ _ 1 _ _ _ hcell
      have m2 : wl.cell? ⟨ad, 2, none⟩ = some (.int .i64 (cr : Int)) := by rw [← hcr]; exact cell_of_row _ _ 2 _ _ _ hcell
      have m3 : wl.cell? ⟨cad, 2, none⟩ = some (.int .i64 (cq : Int)) := by rw [← hcq]; exact cell_of_row _ _ 2 _ _ _ hCj.cell
      have m4 : ∀ i, wl.frozen? ⟨ad, i, none⟩ = false := fun i => by simp [World.frozen?, hcell]
      rw [hcr, hcq, hc16] at hcR
      rw [hcr] at hcle
      have a1 : IntKind.i64.wrap ((cr : Int) - (cq : Int)) = (c16 : Int) := by have := HRL.out; rw [IntWalk.i64_in _ (by omega)]; omega
      rw [hc16] at HWZ
      clear hSj hCj hFj hDj hTj hRQ hbj hcell hWz hzc htz hcut1 hcut2 hz hnad hCz hTz hcr hcq hcR hcle hc16
      go_wp2
      go_region
      rw [HWZ.out]
      have n0 : Wz.cell? ⟨sb, 0, none⟩ = some (.slice (some ⟨g, 0, none⟩) Bn cv) := by rw [← HBN.out]; exact cell_of_row _ _ 0 _ _ _ HZ.out.cell
      have a2 : IntKind.i64.wrap ((pre.length : Int) + 1) = ((pre.length + 1 : Nat) : Int) := by rw [IntWalk.i64_in _ (by omega)]; omega
      have hlen2 : (((pre ++ (⟨ad, .slice (some ⟨gi, 0, none⟩) 16 ci, .slice (some ⟨gs, 0, none⟩) 16 cs, (cntR (R.take 16) : Nat), R.take 16⟩ : Bl) :: post)).map Bl.ad).length = Bn := by rw [← HBN.out]; simp
      have hrw := HZ.out.row
      have hBn' := HBN.out
      have hlb : (pre ++ (⟨ad, .slice (some ⟨gi, 0, none⟩) 16 ci, .slice (some ⟨gs, 0, none⟩) 16 cs, (cntR (R.take 16) : Nat), R.take 16⟩ : Bl) :: post).length = Bn := by rw [← hBn']; simp
      rw [hBn', hlb] at hrw
      have HINS := Lib.hid (insP_any 0 (.slice (some ⟨g, 0, none⟩) Bn cv) ((pre ++ (⟨ad, .slice (some ⟨gi, 0, none⟩) 16 ci, .slice (some ⟨gs, 0, none⟩) 16 cs, (cntR (R.take 16) : Nat), R.take 16⟩ : Bl) :: post).map Bl.ad) (pre.length + 1) cad Wz.heap.size (Wz.alloc (.cells (ptC cad).toArray 129)) (by rw [hlen2]; exact hrw.alloc _) (by rw [hlen2]; omega) (by rw [hlen2]; omega) (heap_alloc_new Wz _) (fun e => by have := own_lt hrw Wz.heap.size e; omega) (Nat.zero_le _))
      have HRW := Lib.hid hrw
      have HLB := Lib.hid hlb
      clear hlen2 hrw hBn' hlb m0 m1 m2 m3 m4 a1
      go_wp2_with fail
      refine HINS.out.mono ?_
      rintro e w9 ⟨v9, rfl, ho9, hg9, hat9⟩
      obtain ⟨b1, hb1⟩ : ∃ b1 : Bl, (⟨ad, .slice (some ⟨gi, 0, none⟩) 16 ci, .slice (some ⟨gs, 0, none⟩) 16 cs, (cntR (R.take 16) : Nat), R.take 16⟩ : Bl) = b1 := ⟨_, rfl⟩
      obtain ⟨c', hc'⟩ : ∃ c' : Bl, (⟨cad, .slice (some ⟨g1, 0, none⟩) (rl - 16) cp1, .slice (some ⟨g2, 0, none⟩) (rl - 16) cp2, (cntR Q : Nat), Q⟩ : Bl) = c' := ⟨_, rfl⟩
      have hb1a : b1.ad = ad := by rw [← hb1]
      have hb1R : b1.R = R.take 16 := by rw [← hb1]
      have hc'a : c'.ad = cad := by rw [← hc']
      have hc'R : c'.R = Q := by rw [← hc']
      rw [hb1] at ho9 HZ HRW HLB
      rw [hc'] at HCZ
      have hads : ((pre ++ b1 :: post).map Bl.ad).take (pre.length + 1) ++ cad :: ((pre ++ b1 :: post).map Bl.ad).drop (pre.length + 1) = ((pre ++ [b1]) ++ c' :: post).map Bl.ad := by
        rw [show (pre ++ b1 :: post).map Bl.ad = (pre.map Bl.ad ++ [b1.ad]) ++ post.map Bl.ad by simp, List.take_left' (by simp), List.drop_left' (by simp)]
        simp [hc'a]
      rw [hads] at ho9
      obtain ⟨n9, hn9⟩ : ∃ z, ((pre ++ b1 :: post).map Bl.ad).length + 1 = z := ⟨_, rfl⟩
      rw [hn9] at ho9
      obtain ⟨g9, c9, R9, hv9, _⟩ := own_parts ho9 (by omega)
      have hzl : sb < Wz.heap.size := kind_lt (kind_cell HZ.out.cell)
      have hzcell := HZ.out.cell
      rw [HBN.out] at hzcell
      have hs9 : w9.heap[sb]? = some (.cells #[.slice (some ⟨g, 0, none⟩) Bn cv, .map (some mp), .int .i64 t] 123 (0, 0)) := by
        refine (hg9.block sb (by rw [World.size_alloc]; omega) (fun e => ?_)).trans ((Below.heap_alloc _ _ _ hzl).trans hzcell)
        exact ne_kind (kind_cell hzcell) (kind_row HRW.out e.symm) (by decide) rfl
      have hWy := (HZ.out.below ((Below.refl _ Wz).alloc (Nat.le_refl _) (.cells (ptC cad).toArray 129)))
      rw [HBN.out] at hWy
      have hCy := bl_below HCZ.out ((Below.refl _ Wz).alloc (Nat.le_refl _) (.cells (ptC cad).toArray 129))
      have t9 : Touch (fun k => k = sb ∨ (Value.slice (some ⟨g, 0, none⟩) Bn cv).ownBlock = some k) (Wz.alloc (.cells (ptC cad).toArray 129)) w9 := (Touch.refl _ _).grown hg9 (fun k hk _ => .inr hk)
      obtain ⟨W10, hW10⟩ : ∃ W, w9.setCell ⟨sb, 0, none⟩ v9 = W := ⟨_, rfl⟩
      have t10 : Touch (fun k => k = sb ∨ (Value.slice (some ⟨g, 0, none⟩) Bn cv).ownBlock = some k) (Wz.alloc (.cells (ptC cad).toArray 129)) W10 := by rw [← hW10]; exact t9.setCell (fun _ => .inl rfl) _
      have hs10 : W10.heap[sb]? = some (.cells #[v9, .map (some mp), .int .i64 t] 123 (0, 0)) := by rw [← hW10]; exact (heap_setCell3 hs9 v9).1
      have hr10 := own_touch ho9 (show Touch (fun x => x = sb) w9 W10 by rw [← hW10]; exact touch_set w9 sb 0 v9) (fun y hy (e : y = sb) => ne_kind (kind_cell hs9) (kind_row ho9 hy) (by decide) e.symm)
      have hlt : ∀ d ∈ (pre ++ [b1]) ++ post, ∀ y, blFoot d y → y < w.heap.size := fun d hd y hy => by
        have hd' : d ∈ pre ∨ d = b1 ∨ d ∈ post := by simpa [or_assoc] using hd
        rcases hd' with hd | rfl | hd
        · exact HS.out.lt (.inr (.inr (.inr ⟨d, by simp [hd], hy⟩)))
        · refine HS.out.lt (.inr (.inr (.inr ⟨_, List.mem_append_right pre List.mem_cons_self, ?_⟩)))
          rw [← hb1] at hy
          exact hy
        · exact HS.out.lt (.inr (.inr (.inr ⟨d, by simp [hd], hy⟩)))
      have hca : ∀ d ∈ (pre ++ [b1]) ++ post, c'.ad ≠ d.ad ∧ ApartS c'.vi d.vi ∧ ApartS c'.vs d.vs := fun d hd => by
        rw [← hc']
        refine ⟨fun e => ?_, fun y hy hy' => ?_, fun y hy hy' => ?_⟩
        · have := hlt d hd d.ad (.inl rfl)
          dsimp only at e
          omega
        · have := hlt d hd y (.inr (.inl hy'))
          simp [Value.ownBlock] at hy
          omega
        · have := hlt d hd y (.inr (.inr hy'))
          simp [Value.ownBlock] at hy
          omega
      have hS10 : ShIs W10 sb mp v9 ((pre ++ [b1]) ++ c' :: post) Dj t :=
        ShIs.insert (pre := pre ++ [b1]) (post := post) (c := c') (by simpa using hWy) hCy hca t10 hs10 (by
          have : (pre ++ [b1]).length + 1 + post.length = n9 := by rw [← hn9]; simp; omega
          rw [this]; exact hr10)
      rw [show (pre ++ [b1]) ++ c' :: post = pre ++ b1 :: c' :: post by simp] at hS10
      have hrow0 := HT.out.row
      rw [rowOf_app, rowOf_cons] at hrow0
      dsimp only at hrow0
      have hT10 : Tidy (pre ++ b1 :: c' :: post) Dj t R0 := by
        refine ⟨?_, HT.out.nodup, fun d hd => ?_, HT.out.all, HDJ.out, ?_⟩
        · rw [rowOf_app, rowOf_cons, rowOf_cons, hb1R, hc'R, ← List.append_assoc (R.take 16), ← HRQ.out]
          exact hrow0
        · have hd' : d ∈ pre ∨ d = b1 ∨ d = c' ∨ d ∈ post := by simpa [or_assoc] using hd
          rcases hd' with hd | rfl | rfl | hd
          · exact HT.out.cnt d (by simp [hd])
          · rw [← hb1]
          · rw [← hc']
          · exact HT.out.cnt d (by simp [hd])
        · refine HFJ.out.congr (fun s => ?_)
          have hnd := HT.out.nodup
          rw [← hrow0, names_app, names_app] at hnd
          have e2 : inF (pre ++ b1 :: (c' :: post)) s = (inF pre s).or (if s ∈ namesR b1.R then some (some b1.ad) else inF (c' :: post) s) := inF_split
          have e3 : inF (c' :: post) s = if s ∈ namesR c'.R then some (some c'.ad) else inF post s := by
            have := inF_split (pre := []) (post := post) (b := c') (x := s)
            rw [List.nil_append] at this
            rw [this]
            rfl
          rw [e2, e3, inF_split, hb1R, hb1a, hc'R, hc'a]
          dsimp only
          have hRs : namesR R = namesR (R.take 16) ++ namesR Q := by rw [← names_app, ← HRQ.out]
          by_cases hsQ : s ∈ namesR Q
          · have hsR : s ∈ namesR R := by rw [hRs]; exact List.mem_append_right _ hsQ
            have h1 : s ∉ namesR (rowOf pre) := fun h => (List.nodup_append.1 hnd).2.2 s h s (List.mem_append_left _ hsR) rfl
            have h2 : s ∉ namesR (R.take 16) := fun h => by
              have hn2 := (List.nodup_append.1 (List.nodup_append.1 hnd).2.1).1
              rw [hRs] at hn2
              exact (List.nodup_append.1 hn2).2.2 s h s hsQ rfl
            rw [if_pos hsQ, inF_none h1, if_neg h2, if_pos hsQ]
            rfl
          · rw [if_neg hsQ, if_neg hsQ]
            have : s ∈ namesR R ↔ s ∈ namesR (R.take 16) := by rw [hRs, List.mem_append]; simp [hsQ]
            by_cases hs : s ∈ namesR (R.take 16)
            · rw [if_pos (this.2 hs), if_pos hs]
            · rw [if_neg (fun h => hs (this.1 h)), if_neg hs]
      have hfvb : ∀ y, (Value.slice (some ⟨g, 0, none⟩) Bn cv).ownBlock = some y → foot sb mp (.slice (some ⟨g, 0, none⟩) (pre ++ (⟨ad, .slice (some ⟨gi, 0, none⟩) R.length ci, .slice (some ⟨gs, 0, none⟩) R.length cs, (cntR R : Nat), R⟩ : Bl) :: post).length cv) (pre ++ (⟨ad, .slice (some ⟨gi, 0, none⟩) R.length ci, .slice (some ⟨gs, 0, none⟩) R.length cs, (cntR R : Nat), R⟩ : Bl) :: post) y := fun y hy => .inr (.inr (.inl hy))
      have hTo := (HTZ.out.alloc (.cells (ptC cad).toArray 129)).trans t10 (fun y _ h => h.elim (fun h => .inl h) (hfvb y))
      have hft : ∀ y, foot sb mp v9 (pre ++ b1 :: c' :: post) y → foot sb mp (.slice (some ⟨g, 0, none⟩) (pre ++ (⟨ad, .slice (some ⟨gi, 0, none⟩) R.length ci, .slice (some ⟨gs, 0, none⟩) R.length cs, (cntR R : Nat), R⟩ : Bl) :: post).length cv) (pre ++ (⟨ad, .slice (some ⟨gi, 0, none⟩) R.length ci, .slice (some ⟨gs, 0, none⟩) R.length cs, (cntR R : Nat), R⟩ : Bl) :: post) y ∨ w.heap.size ≤ y := fun y hy => by
        rcases hy with h | h | h | ⟨d, hd, h⟩
        · exact .inl (.inl h)
        · exact .inl (.inr (.inl h))
        · rcases hat9 with h' | h'
          · rw [h'] at h; exact .inl (hfvb y h)
          · rw [h'] at h
            injection h with h
            refine .inr ?_
            rw [World.size_alloc] at h
            have := HTZ.out.size
            omega
        · have hd' : d ∈ pre ∨ d = b1 ∨ d = c' ∨ d ∈ post := by simpa [or_assoc] using hd
          rcases hd' with hd | rfl | rfl | hd
          · exact .inl (.inr (.inr (.inr ⟨d, by simp [hd], h⟩)))
          · refine .inl (.inr (.inr (.inr ⟨_, List.mem_append_right pre List.mem_cons_self, ?_⟩)))
            rw [← hb1] at h
            exact h
          · rw [← hc'] at h
            refine .inr ?_
            rcases h with h | h | h
            · dsimp only at h; omega
            · simp [Value.ownBlock] at h; omega
            · simp [Value.ownBlock] at h; omega
          · exact .inl (.inr (.inr (.inr ⟨d, by simp [hd], h⟩)))
      have HF := Lib.hid (show PP (.returned (.tuple #[])) W10 from by
        rw [← HPP.out]
        exact ⟨⟨_, rfl⟩, v9, b1, c', Dj, hS10, hT10, hTo, hft⟩)
      subst hv9
      have x0 : w9.cell? ⟨sb, 0, none⟩ = some (.slice (some ⟨g, 0, none⟩) Bn cv) := cell_of_row _ _ 0 _ _ _ hs9
      have x1 : ∀ i, w9.frozen? ⟨sb, i, none⟩ = false := fun i => by simp [World.frozen?, hs9]
      have HW10 := Lib.hid hW10
      clear hn9 hb1 hc' hb1a hb1R hc'a hc'R ho9 hads hzl hzcell hs9 hWy hCy t9 hW10 t10 hs10 hr10 hlt hca hS10 hrow0 hT10 hfvb hTo hft hg9 hat9
      go_wp2
      go_end0
      rw [HW10.out]
      exact HF.out
end Go.Proofs.YtphapjbfaomblaaDoor
/- A region that draws its order, whose head reads, lays blocks and calls (callees may answer in many ways), and whose tail waits for the whole head: one condition on the world along the head alone, so that the head's loads are taken first though the tail stores where they read. Plain, over any program. -/
namespace Go.Proofs.YtphapjbfaomblaaDoor
open Go
section
variable {P : Program} {l : List Oper} {Q : Exit → Act → World → Prop} {S : World → Prop} {n g : Nat}
/-- a walk along a head of f operations, g to come behind it -/
def HeadH (P : Program) (l : List Oper) (Q : Exit → Act → World → Prop) (S : World → Prop) (n g : Nat) : Nat → Array Bool → Act → World → Prop
  | 0, listed, a, w => (∀ j ∈ Region.ready .any l.toArray listed, n ≤ j) ∧ wpAny P .any l.toArray Q g listed a w
  | f + 1, listed, a, w =>
    Region.ready .any l.toArray listed ≠ [] ∧ ∀ i ∈ Region.ready .any l.toArray listed, i < n ∧ wpOp P l.toArray Q i (fun a' w' => S w' ∧ HeadH P l Q S n g f (listed.setIfInBounds i true) a' w') a w
theorem HeadH.of : ∀ (f : Nat) (listed : Array Bool) (a : Act) (w : World), HeadH P l Q S n g f listed a w → wpAny P .any l.toArray Q (f + g) listed a w
  | 0, listed, a, w, h => by rw [Nat.zero_add]; exact h.2
  | f + 1, listed, a, w, h => by
    rw [show f + 1 + g = (f + g) + 1 by omega]
    exact ⟨fun h0 => absurd h0 h.1, fun i hi => wpOp_mono (fun a' w' h' => HeadH.of f _ a' w' h'.2) (h.2 i hi).2⟩
/-- the whole tail waits for i -/
def tailB (l : List Oper) (n i : Nat) : Bool := Region.noSelect l.toArray && decide (i < n) && (List.range (l.length - n)).all fun t => Region.waitsFor .any l.toArray (n + t) i
theorem tail_later {i : Nat} {listed : Array Bool} (hB : tailB l n i = true) (hun : listed.getD i true = false) : ∀ t, n ≤ t → t ∉ Region.ready .any l.toArray listed := by
  intro t ht hr
  simp only [tailB, Bool.and_eq_true] at hB
  obtain ⟨_, ot, hot, hall⟩ := mem_ready.1 hr
  have htlt : t < l.length := by have := (Array.getElem?_eq_some_iff.1 hot).1; simpa using this
  have h1 := List.all_eq_true.1 hB.2 (t - n) (List.mem_range.2 (by omega))
  rw [show n + (t - n) = t by omega] at h1
  obtain ⟨o', ho', e, he, hb, hon⟩ := Region.waitsFor_spec h1
  have : o' = ot := Option.some.inj (ho'.symm.trans hot)
  subst this
  have h2 := hall e he hb
  rw [hon, getD_both hun] at h2
  cases h2
theorem HeadH.first {i : Nat} {oi : Oper} {v : Value} (hi : l.toArray[i]? = some oi) (hB : tailB l n i = true) (hQ : ∀ c a w, Q (.panic c) (a.put oi.dst v) w → Q (.panic c) a w) :
    ∀ (f : Nat) (listed : Array Bool) (a : Act) (w : World),
      (∀ j oj, l.toArray[j]? = some oj → j ≠ i → listed.getD j true = false → (∀ e ∈ oj.after, Region.binds .any e = true → e.on ≠ i) → oi.apart l.toArray oj = true) →
      i ∈ Region.ready .any l.toArray listed → YieldsIf P l.toArray S oi v a → S w →
      HeadH P l Q S n g f (listed.setIfInBounds i true) (a.put oi.dst v) w → HeadH P l Q S n g (f + 1) listed a w := by
  have hB' := hB
  simp only [tailB, Bool.and_eq_true, decide_eq_true_eq] at hB'
  have hin := hB'.1.2
  have hsel := Region.noSelect_spec hB'.1.1
  intro f
  induction f with
  | zero =>
    intro listed a w _ hr hy hS H
    have hun := (mem_ready.1 hr).1
    refine ⟨fun h => (by rw [h] at hr; cases hr), fun j hj => ?_⟩
    have hjn : j < n := by
      rcases Nat.lt_or_ge j n with h | h
      · exact h
      · exact absurd hj (tail_later hB hun j h)
    refine ⟨hjn, ?_⟩
    by_cases hji : j = i
    · subst hji; exact hy.wpOp hi hS ⟨hS, H⟩
    · have := H.1 j (ready_mono hj hji)
      omega
  | succ f ih =>
    intro listed a w hfree hr hy hS H
    have hun := (mem_ready.1 hr).1
    refine ⟨fun h => (by rw [h] at hr; cases hr), fun j hj => ?_⟩
    have hjn : j < n := by
      rcases Nat.lt_or_ge j n with h | h
      · exact h
      · exact absurd hj (tail_later hB hun j h)
    refine ⟨hjn, ?_⟩
    by_cases hji : j = i
    · subst hji; exact hy.wpOp hi hS ⟨hS, H⟩
    · have h1 := (H.2 j (ready_mono hj hji)).2
      obtain ⟨hjun, oj, hoj, hall⟩ := mem_ready.1 hj
      have hnot : ∀ e ∈ oj.after, Region.binds .any e = true → e.on ≠ i := fun e he hb heq => by
        have h1 := hall e he hb
        rw [heq, getD_both hun] at h1
        cases h1
      have h2 := wpOp_putIf hoj (hfree j oj hoj hji hjun hnot) (fun cs b => hsel i oi cs b hi) (fun cs b => hsel j oj cs b hoj) hQ hy h1
      have hfree' : ∀ k ok, l.toArray[k]? = some ok → k ≠ i → (listed.setIfInBounds j true).getD k true = false →
          (∀ e ∈ ok.after, Region.binds .any e = true → e.on ≠ i) → oi.apart l.toArray ok = true := fun k ok hk hki hun hno => by
        refine hfree k ok hk hki ?_ hno
        by_cases hjk : j = k
        · subst hjk; exact hjun
        · rw [getD_set_ne true hjk] at hun; exact hun
      refine wpOp_mono (fun a' w' h3 => ⟨h3.2.1, ih (listed.setIfInBounds j true) a' w' hfree' (ready_mono hr (Ne.symm hji)) h3.1 h3.2.1 ?_⟩) h2
      rw [Array.setIfInBounds_comm _ _ hji]
      exact h3.2.2
theorem HeadH.take {i f : Nat} {oi : Oper} {v : Value} {listed : Array Bool} {a : Act} {w : World} (hi : l[i]? = some oi) (hB : tailB l n i = true)
    (hf : Region.free .any l.toArray listed i = true) (hr : (Region.ready .any l.toArray listed).contains i = true) (hQ : ∀ c a w, Q (.panic c) (a.put oi.dst v) w → Q (.panic c) a w)
    (hy : YieldsIf P l.toArray S oi v a) (hS : S w) (h : HeadH P l Q S n g f (listed.setIfInBounds i true) (a.put oi.dst v) w) : HeadH P l Q S n g (f + 1) listed a w := by
  have hi' : l.toArray[i]? = some oi := by simpa using hi
  exact HeadH.first hi' hB hQ f listed a w (Region.free_spec hi' hf) (by simpa using hr) hy hS h
/-- each of these comes up -/
def HeadAll (P : Program) (l : List Oper) (Q : Exit → Act → World → Prop) (S : World → Prop) (n g f : Nat) (listed : Array Bool) (a : Act) (w : World) (rs : List Nat) : Prop :=
  ∀ i ∈ rs, i < n ∧ wpOp P l.toArray Q i (fun a' w' => S w' ∧ HeadH P l Q S n g f (listed.setIfInBounds i true) a' w') a w
theorem HeadH.all {rs : List Nat} {f : Nat} {listed : Array Bool} {a : Act} {w : World} (hr : Region.ready .any l.toArray listed = rs) (hne : rs.isEmpty = false)
    (h : HeadAll P l Q S n g f listed a w rs) : HeadH P l Q S n g (f + 1) listed a w := by
  subst hr
  exact ⟨fun h0 => (by rw [h0] at hne; cases hne), h⟩
theorem HeadAll.nil {f : Nat} {listed : Array Bool} {a : Act} {w : World} : HeadAll P l Q S n g f listed a w [] := fun _ h => by cases h
theorem HeadAll.cons {f i : Nat} {o : Oper} {rs : List Nat} {listed : Array Bool} {a : Act} {w : World} (ho : l[i]? = some o) (hin : decide (i < n) = true)
    (h : ∀ K' : Act → World → Prop, Shut (∀ a w, S w → (S w → HeadH P l Q S n g f (listed.setIfInBounds i true) a w) → K' a w) → if Region.wanted o (yielded l.toArray a.tmps) = true then Oper.wp P o a w K' Q else K' (a.put o.dst undef) w)
    (hs : HeadAll P l Q S n g f listed a w rs) : HeadAll P l Q S n g f listed a w (i :: rs) := fun j hj => by
  rcases List.mem_cons.1 hj with rfl | hj
  · exact ⟨of_decide_eq_true hin, wpOp_step (by simpa using ho) (fun K' hK => h K' (fun a w hS hW => hK a w ⟨hS, hW hS⟩))⟩
  · exact hs j hj
theorem HeadH.done {listed : Array Bool} {a : Act} {w : World} (hB : (Region.ready .any l.toArray listed).all (fun j => decide (n ≤ j)) = true) (h : wpAny P .any l.toArray Q g listed a w) : HeadH P l Q S n g 0 listed a w :=
  ⟨fun j hj => of_decide_eq_true (List.all_eq_true.1 hB j hj), h⟩
end
end Go.Proofs.YtphapjbfaomblaaDoor
