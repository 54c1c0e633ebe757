/- Texts of this seat, one behind the other: SB, SC. -/
import Derived.Test.YtphapjbfaomblaaDoorZb7
import Derived.BigQuiet
import Derived.Maps.OwnSet
/- The shelf's small functions: new, all, count, add; the place of an id in a row. -/
namespace Go.Proofs.YtphapjbfaomblaaDoor
open Go Go.RowKit Go.Maps
theorem heap_setCell3 {w : World} {g : Nat} {a b c : Value} {t : TypeId} (h : w.heap[g]? = some (.cells #[a, b, c] t (0, 0))) (v : Value) :
    (w.setCell ⟨g, 0, none⟩ v).heap[g]? = some (.cells #[v, b, c] t (0, 0)) ∧ (w.setCell ⟨g, 1, none⟩ v).heap[g]? = some (.cells #[a, v, c] t (0, 0)) ∧ (w.setCell ⟨g, 2, none⟩ v).heap[g]? = some (.cells #[a, b, v] t (0, 0)) := by
  simp [World.setCell, Array.getElem?_modify, h]
theorem touch_set (w : World) (g i : Nat) (v : Value) : Touch (fun x => x = g) w (w.setCell ⟨g, i, none⟩ v) := (Touch.refl (fun x => x = g) w).setCell (fun _ => rfl) v
theorem ShIs.at {w : World} {sb mp : Nat} {vb : Value} {Bs : List Bl} {D : DataW (Option Nat)} {t : Int} (h : ShIs w sb mp vb Bs D t) {i : Nat} (hi : i < Bs.length) :
    ∃ g cap, vb = .slice (some ⟨g, 0, none⟩) Bs.length cap ∧ w.cell? ⟨g, i, none⟩ = some (.pointer (some ⟨Bs[i].ad, 0, none⟩)) ∧ g < w.heap.size := by
  obtain ⟨g, cap, R, rfl, _, hl, _, _, _, _⟩ := own_parts h.row (by omega)
  refine ⟨g, cap, rfl, (own_cell h.row i _ ?_).1, hl⟩
  have := flat_at ptC 1 (fun _ => rfl) (Bs.map Bl.ad) i (by simpa using hi) 0 (by decide)
  rw [Nat.mul_one, Nat.add_zero] at this
  rw [this]
  simp [ptC]
theorem count_any {w : World} {sb mp : Nat} {vb : Value} {Bs : List Bl} {D : DataW (Option Nat)} {t : Int} (h : ShIs w sb mp vb Bs D t) :
    Calls Tryd.prog 55 #[.pointer (some ⟨sb, 0, none⟩)] w fun e w' => e = .returned (.int .i64 t) ∧ w' = w := by
  have c2 : w.cell? ⟨sb, 2, none⟩ = some (.int .i64 t) := cell_of_row _ _ 2 _ _ _ h.cell
  clear h
  go_enter Tryd.func55, Tryd.ntmps55
  go_wp2
  go_ret
  exact ⟨rfl, rfl⟩
theorem add_any {w : World} {sb mp : Nat} {vb : Value} {pre post : List Bl} {b : Bl} {D : DataW (Option Nat)} {t : Int} (h : ShIs w sb mp vb (pre ++ b :: post) D t) (k : Int) (hk : -1 ≤ k ∧ k ≤ 1) (ht : 0 ≤ t ∧ t ≤ 100000) (hn : 0 ≤ b.n ∧ b.n ≤ 100000) :
    Calls Tryd.prog 84 #[.pointer (some ⟨sb, 0, none⟩), .pointer (some ⟨b.ad, 0, none⟩), .int .i64 k] w fun e w' => (∃ v, e = .returned v) ∧ ShIs w' sb mp vb (pre ++ { b with n := b.n + k } :: post) D (t + k) ∧ Touch (fun x => x = b.ad ∨ x = sb) w w' := by
  have hb := h.bl b (by simp)
  obtain ⟨ad, vi, vs, n, R⟩ := b
  dsimp only at hn hb ⊢
  have hne : sb ≠ ad := fun e => (h.blNot (.inl e)).1 rfl
  have hcell := hb.cell
  dsimp only at hcell
  obtain ⟨w1, hw1⟩ : ∃ w1, w.setCell ⟨ad, 2, none⟩ (.int .i64 (n + k)) = w1 := ⟨_, rfl⟩
  have hc1 : w1.heap[ad]? = some (.cells #[vi, vs, .int .i64 (n + k)] 132 (0, 0)) := by rw [← hw1]; exact (heap_setCell3 hcell _).2.2
  have t1 : Touch (fun x => x = ad) w w1 := by rw [← hw1]; exact touch_set w _ _ _
  have h1 : ShIs w1 sb mp vb (pre ++ ⟨ad, vi, vs, n + k, R⟩ :: post) D t := by
    refine h.change (t1.mono (fun x _ hx => .inl hx)) ⟨hc1, own_touch hb.ids t1 (fun g hg => ?_), own_touch hb.sn t1 (fun g hg => ?_)⟩ rfl (.inl rfl) (.inl rfl)
    · exact ne_kind (kind_row hb.ids hg) (kind_cell hcell) (by decide)
    · exact ne_kind (kind_row hb.sn hg) (kind_cell hcell) (by decide)
  obtain ⟨w2, hw2⟩ : ∃ w2, w1.setCell ⟨sb, 2, none⟩ (.int .i64 (t + k)) = w2 := ⟨_, rfl⟩
  have t2 : Touch (fun x => x = sb) w1 w2 := by rw [← hw2]; exact touch_set w1 _ _ _
  have h2 : ShIs w2 sb mp vb (pre ++ ⟨ad, vi, vs, n + k, R⟩ :: post) D (t + k) := h1.recount t2 (by rw [← hw2]; exact (heap_setCell3 h1.cell _).2.2)
  have hT : Touch (fun x => x = ad ∨ x = sb) w w2 := (t1.mono (G := fun x => x = ad ∨ x = sb) (fun x _ hx => .inl hx)).trans t2 (fun x _ hx => .inr hx)
  have HFIN := Lib.hid (And.intro h2 hT)
  have c0 : w.cell? ⟨ad, 2, none⟩ = some (.int .i64 n) := cell_of_row _ _ 2 _ _ _ hcell
  have f0 : ∀ i, w.frozen? ⟨ad, i, none⟩ = false := fun i => by simp [World.frozen?, hcell]
  have c1 : (w.setCell ⟨ad, 2, none⟩ (.int .i64 (n + k))).cell? ⟨sb, 2, none⟩ = some (.int .i64 t) := by rw [hw1]; exact cell_of_row _ _ 2 _ _ _ h1.cell
  have f1 : ∀ i, w.frozen? ⟨sb, i, none⟩ = false := fun i => by simp [World.frozen?, h.cell]
  have a1 : IntKind.i64.wrap (n + k) = n + k := IntWalk.i64_in _ (by omega)
  have a2 : IntKind.i64.wrap (t + k) = t + k := IntWalk.i64_in _ (by omega)
  have HW1 := Lib.hid hw1
  have HW2 := Lib.hid hw2
  clear h hb hcell hw1 hc1 t1 h1 hw2 t2 h2 hT hk hn
  go_enter Tryd.func84, Tryd.ntmps84
  go_wp2
  go_end0
  rw [HW1.out, HW2.out]
  exact ⟨⟨_, rfl⟩, HFIN.out⟩
theorem new_any (w : World) : Calls Tryd.prog 46 #[] w fun e w' => ∃ sb, e = .returned (.pointer (some ⟨sb, 0, none⟩)) ∧ w.heap.size ≤ sb ∧ ShelfAt w' (fun k => w.heap.size ≤ k ∧ k < w'.heap.size) sb [] ∧ Below w.heap.size w w' := by
  have hm := World.ownsMap_made (H := Option Nat) w Tryd.prog 26 (objElem ptV)
  obtain ⟨w1, hw1⟩ : ∃ w1, w.alloc (.map #[] 0) = w1 := ⟨_, rfl⟩
  have hs1 : w1.heap.size = w.heap.size + 1 := by rw [← hw1]; simp
  rw [hw1] at hm
  obtain ⟨w2, hw2⟩ : ∃ w2, w1.alloc (.cells #[.slice none 0 0, .map (some w.heap.size), .int .i64 0] 123) = w2 := ⟨_, rfl⟩
  have hs2 : w2.heap.size = w.heap.size + 2 := by rw [← hw2]; simp [hs1]
  have hc : w2.heap[w1.heap.size]? = some (.cells #[.slice none 0 0, .map (some w.heap.size), .int .i64 0] 123 (0, 0)) := by rw [← hw2]; exact heap_alloc_new w1 _
  have hm2 : w2.ownsMap Tryd.prog 26 (objElem ptV) w.heap.size 0 (.map []) := map_touch hm (by rw [← hw2]; exact (Touch.refl (fun _ => False) w1).alloc _) (fun h => h)
  have hb : Below w.heap.size w w2 := by rw [← hw2, ← hw1]; exact ((Below.refl _ w).alloc (Nat.le_refl _) _).alloc (by simp) _
  have hS : ShelfAt w2 (fun k => w.heap.size ≤ k ∧ k < w2.heap.size) w1.heap.size [] := by
    refine ⟨w.heap.size, .slice none 0 0, [], .map [], 0, ⟨hc, World.ownsRow_nil _ _ _ _, fun b hb => by simp at hb, hm2, List.Pairwise.nil⟩, ⟨rfl, List.nodup_nil, fun b hb => by simp at hb, rfl, rfl, FMap.start _⟩, fun k hk => ?_, fun k hk => hk.2, Nat.le_refl _⟩
    rcases hk with rfl | rfl | hk | ⟨b, hb, _⟩
    · omega
    · omega
    · cases hk
    · simp at hb
  have HF := Lib.hid (show w.heap.size ≤ w.heap.size + 1 ∧ ShelfAt w2 (fun k => w.heap.size ≤ k ∧ k < w2.heap.size) (w.heap.size + 1) [] ∧ Below w.heap.size w w2 from by rw [← hs1]; exact ⟨by omega, hS, hb⟩)
  have HW1 := Lib.hid hw1
  have HW2 := Lib.hid hw2
  clear hm hs1 hs2 hc hm2 hb hS hw1 hw2
  have hmm := @run_makeMap Tryd.prog
  go_enter Tryd.func46, Tryd.ntmps46
  go_wp2
  go_ret
  rw [HW1.out, HW2.out]
  exact ⟨_, rfl, HF.out⟩
def AtIsS (L : List Id) (x : Id) (r : Int) : Prop := (∃ (k : Nat) (h : k < L.length), r = (k : Int) ∧ L[k] = x ∧ x ∉ L.take k) ∨ (r = -1 ∧ x ∉ L)
theorem at_ix {R : Row Id} {x : Id} {r : Int} (h : AtIsS (namesR R) x r) (hx : x ∈ namesR R) : r = (ixR R x : Int) := by
  rcases h with ⟨k, hk, rfl, h1, h2⟩ | ⟨_, h⟩
  · have hk' : k < R.length := by rw [← names_len]; exact hk
    rw [ixR_eq hk' (by simpa [namesR] using h1) (fun j hj e => h2 ?_)]
    rw [List.mem_take_iff_getElem]
    exact ⟨j, by rw [names_len]; omega, by simpa [namesR] using e⟩
  · exact absurd hx h
def AtRelS (L : List Id) (x : Id) (W0 : World) (i : Value) (wr : World) : Prop := ∃ k : Nat, k ≤ L.length ∧ i = .int .i64 k ∧ x ∉ L.take k ∧ ∃ q, wr = W0.drewN q
theorem eq3_idS (a b : Id) : eq3 a.s.T a.s.R a.I b.s.T b.s.R b.I = decide (a = b) := eq3_iff a b
set_option maxHeartbeats 2000000 in
theorem index_any (L : List Id) (x : Id) (A : Option Addr) (n c B : Nat) (w : World) (hR : Rd w B 3 (.slice A n c) n (L.flatMap idC)) (hB : B ≤ w.heap.size) :
    Calls Tryd.prog 77 #[.slice A n c, idV x] w fun e w' => (∃ r, e = .returned (.int .i64 r) ∧ AtIsS L x r) ∧ Grows w w' := by
  obtain ⟨_, hnc, hcm⟩ := hR.len
  unfold maxLen at hcm
  obtain rfl := len_of idC 3 (fun _ => rfl) (by decide) hR.1
  have HR := Lib.hid hR
  clear hR
  unfold idV
  go_enter Tryd.func77, Tryd.ntmps77
  go_wp2
  obtain ⟨W0, hW0⟩ : ∃ W, w.alloc (.cells #[.int .i64 x.s.T, .int .i64 x.s.R, .int .i64 x.I] 26) = W := ⟨_, rfl⟩
  have hg : Grows w W0 := by rw [← hW0]; exact (Grows.refl w).alloc _
  have hb1 : W0.heap[w.heap.size]? = some (.cells #[.int .i64 x.s.T, .int .i64 x.s.R, .int .i64 x.I] 26 (0, 0)) := by rw [← hW0]; exact heap_alloc_new w _
  rw [hW0]
  have c0 : W0.cell? ⟨w.heap.size, 0, none⟩ = some (.int .i64 x.s.T) := cell_of_row _ _ 0 _ _ _ hb1
  have c1 : W0.cell? ⟨w.heap.size, 1, none⟩ = some (.int .i64 x.s.R) := cell_of_row _ _ 1 _ _ _ hb1
  have c2 : W0.cell? ⟨w.heap.size, 2, none⟩ = some (.int .i64 x.I) := cell_of_row _ _ 2 _ _ _ hb1
  have HR2 := Lib.hid (HR.out.below' hg.below hB)
  clear hW0 hb1 HR
  go_loopw [8] (fun i wr => AtRelS L x W0 i wr) (fun i _ => L.length - (intOf i).toNat)
  case atStart => exact ⟨0, Nat.zero_le _, rfl, by simp, 0, rfl⟩
  case round =>
    obtain ⟨k, hk, rfl, hno, q, rfl⟩ := hrel
    by_cases hlt : k < L.length
    · obtain ⟨b, o, rfl, hB', hcell⟩ := rd_at idC 3 (fun _ => rfl) (by decide) HR2.out hlt
      have htk := List.take_succ_eq_append_getElem hlt
      obtain ⟨p, hp⟩ : ∃ p, L[k] = p := ⟨_, rfl⟩
      have HPe := Lib.hid hp
      rw [hp] at hcell htk
      have HTK := Lib.hid htk
      have HNO := Lib.hid hno
      have d0 : W0.cell? ⟨b, o + k * 3, none⟩ = some (.int .i64 p.s.T) := hcell 0 _ rfl
      have d1 : W0.cell? ⟨b, o + k * 3 + 1, none⟩ = some (.int .i64 p.s.R) := hcell 1 _ rfl
      have d2 : W0.cell? ⟨b, o + k * 3 + 2, none⟩ = some (.int .i64 p.I) := hcell 2 _ rfl
      have i1 : (0 : Int) ≤ (k : Int) := by omega
      have i2 : (k : Int) < (L.length : Int) := by omega
      have hq := eql26
      have hgd := gd26
      have hE := eq3_idS x p
      clear hcell hp htk hno
      by_cases hpx : x = p
      · rw [decide_eq_true hpx] at hE
        have HPX := Lib.hid hpx
        clear hpx
        go_wp2
        go_quiet (fail)
        go_wp2
        go_ret
        exact ⟨⟨_, rfl, .inl ⟨k, hlt, rfl, by rw [HPe.out]; exact HPX.out.symm, HNO.out⟩⟩, hg.trans (((Grows.refl W0).drewN _).drewN _)⟩
      · rw [decide_eq_false hpx] at hE
        have HPX := Lib.hid hpx
        clear hpx
        go_wp2
        go_quiet (fail)
        go_wp2
        go_roundw
        case rel =>
          refine ⟨k + 1, by omega, by go_num, ?_, _, rfl⟩
          rw [HTK.out, List.mem_append, List.mem_singleton]
          rintro (h | h)
          · exact HNO.out h
          · exact HPX.out h
        case measure => simp [intOf]; omega
    · obtain rfl : k = L.length := by omega
      rw [List.take_length] at hno
      have HNO := Lib.hid hno
      clear hno hk
      go_wp2
      go_ret
      exact ⟨⟨_, rfl, .inr ⟨rfl, HNO.out⟩⟩, hg.trans ((Grows.refl W0).drewN _)⟩
end Go.Proofs.YtphapjbfaomblaaDoor
/- The shelf's List. -/
namespace Go.Proofs.YtphapjbfaomblaaDoor
open Go Go.RowKit Go.Maps
theorem info33 : (Tryd.prog.info? 26).map (fun i => (i.zero, i.size, i.bytes)) = some (some (.agg #[.int .i64 0, .int .i64 0, .int .i64 0]), 3, 24) := by kernel_rfl
theorem names_take (R : Row Id) (j : Nat) : namesR (R.take j) = (namesR R).take j := by simp [namesR]
theorem listR_snoc (P : Row Id) (p : Id × Bool) (s : Bool) : listR (P ++ [p]) s = listR P s ++ if (p.2 || !s) = true then [p.1] else [] := by
  rw [listR_app]
  congr 1
  by_cases h : (p.2 || !s) = true
  · rw [if_pos h]; simp [listR, namesR, h]
  · rw [if_neg h]; simp only [Bool.not_eq_true] at h; simp [listR, namesR, h]
theorem listR_le (P : Row Id) (s : Bool) : (listR P s).length ≤ P.length := by
  unfold listR
  rw [names_len]
  exact List.length_filter_le _ _
def LsRel (Bs : List Bl) (s : Bool) (w : World) (out i : Value) (wr : World) : Prop :=
  ∃ k : Nat, k ≤ Bs.length ∧ i = .int .i64 k ∧ wr.ownsRow w.heap.size 26 3 out (listR (rowOf (Bs.take k)) s).length ((listR (rowOf (Bs.take k)) s).flatMap idC) ∧ Below w.heap.size w wr
def LiRel (P R : Row Id) (s : Bool) (w : World) (out i : Value) (wr : World) : Prop :=
  ∃ j : Nat, j ≤ R.length ∧ i = .int .i64 j ∧ wr.ownsRow w.heap.size 26 3 out (listR (P ++ R.take j) s).length ((listR (P ++ R.take j) s).flatMap idC) ∧ Below w.heap.size w wr
set_option maxRecDepth 100000 in
set_option maxHeartbeats 4000000 in
theorem list_any {w : World} {sb mp : Nat} {vb : Value} {Bs : List Bl} {D : DataW (Option Nat)} {t : Int} (h : ShIs w sb mp vb Bs D t) (hlen : (rowOf Bs).length ≤ 100000) (s : Bool) :
    Calls Tryd.prog 52 #[.pointer (some ⟨sb, 0, none⟩), .bool s] w fun e w' => ∃ v, e = .returned v ∧ w'.ownsRow w.heap.size 26 3 v (listR (rowOf Bs) s).length ((listR (rowOf Bs) s).flatMap idC) ∧ Below w.heap.size w w' := by
  obtain ⟨i0, hi, hz0, hz1, hz2⟩ := info_parts info33
  obtain ⟨Av, cv, rfl, hnc0, hcm0⟩ := (Rd.of_own h.row).form
  unfold maxLen at hcm0
  have HS := Lib.hid (fun W (hW : Below w.heap.size w W) => h.below hW)
  have hsb : sb < w.heap.size := kind_lt (kind_cell h.cell)
  have c00 : w.cell? ⟨sb, 0, none⟩ = some (.slice Av Bs.length cv) := cell_of_row _ _ 0 _ _ _ h.cell
  have hw1 : (w.alloc (.cells #[] 26)).cell? ⟨sb, 0, none⟩ = some (.slice Av Bs.length cv) := by rw [World.cell?_of_block (Below.heap_alloc _ _ _ hsb)]; exact c00
  have hown0 : (w.alloc (.cells #[] 26)).ownsRow w.heap.size 26 3 (.slice (some ⟨w.heap.size, 0, none⟩) 0 0) 0 [] := own_mk (R := []) rfl (Nat.le_refl _) (Nat.le_refl _) (Nat.zero_le _) (heap_alloc_new w _) rfl
  have HO0 := Lib.hid hown0
  clear h c00 hown0
  go_enter Tryd.func52, Tryd.ntmps52
  go_wp2
  obtain ⟨W0, hW0⟩ : ∃ W, w.alloc (.cells #[] 26) = W := ⟨_, rfl⟩
  have hB0 : Below w.heap.size w W0 := by rw [← hW0]; exact (Below.refl _ w).alloc (Nat.le_refl _) _
  have HO1 := Lib.hid (show W0.ownsRow w.heap.size 26 3 (.slice (some ⟨w.heap.size, 0, none⟩) 0 0) 0 [] from by rw [← hW0]; exact HO0.out)
  have HB0 := Lib.hid hB0
  rw [hW0]
  clear hW0 hB0 HO0 hw1
  go_loopw [5, 16] (fun out i wr => LsRel Bs s w out i wr) (fun _ i _ => Bs.length - (intOf i).toNat)
  case atStart => exact ⟨0, Nat.zero_le _, rfl, HO1.out, HB0.out⟩
  case round =>
    obtain ⟨k, hk, rfl, hO, hb⟩ := hrel
    obtain ⟨wo, rfl⟩ : ∃ wo : World, wo = wr := ⟨_, rfl⟩
    have HO := Lib.hid hO
    have HBo := Lib.hid hb
    clear hO hb
    by_cases hlt : k < Bs.length
    · obtain ⟨g, cap, e1, c1, _⟩ := (HS.out wo HBo.out).at hlt
      injection e1 with e1 _ e3
      subst e1; subst e3
      have hbm : Bs[k] ∈ Bs := List.getElem_mem hlt
      have htk : Bs.take (k + 1) = Bs.take k ++ [Bs[k]] := List.take_succ_eq_append_getElem hlt
      have hrl : (rowOf (Bs.take k)).length + (Bs[k]).R.length ≤ (rowOf Bs).length := by
        have e : rowOf Bs = rowOf (Bs.take k) ++ ((Bs[k]).R ++ rowOf (Bs.drop (k + 1))) := by
          rw [← rowOf_cons, List.getElem_cons_drop, ← rowOf_app, List.take_append_drop]
        rw [e]
        simp only [List.length_append]
        omega
      have hbl := fun W (hW : Below w.heap.size w W) => (HS.out W hW).bl _ hbm
      obtain ⟨b, hbe⟩ : ∃ b, Bs[k] = b := ⟨_, rfl⟩
      rw [hbe] at c1 htk hbl hrl
      have hadl : b.ad < w.heap.size := kind_lt (kind_cell (hbl w (Below.refl _ _)).cell)
      obtain ⟨ad, vi, vs, n, R⟩ := b
      dsimp only at c1 hrl hadl
      obtain ⟨Ai, ci, hvi, _, hcm⟩ := (Rd.of_own (hbl w (Below.refl _ _)).ids).form
      obtain ⟨As, cs, hvs, _, hcm2⟩ := (Rd.of_own (hbl w (Below.refl _ _)).sn).form
      dsimp only at hvi hvs
      subst hvi; subst hvs
      have HBL := Lib.hid hbl
      have HTK := Lib.hid (show rowOf (Bs.take (k + 1)) = rowOf (Bs.take k) ++ R from by rw [htk, rowOf_app]; simp [rowOf])
      obtain ⟨P, hP⟩ : ∃ P, rowOf (Bs.take k) = P := ⟨_, rfl⟩
      rw [hP] at HTK hrl HO
      have c2 : wo.cell? ⟨ad, 0, none⟩ = some (.slice Ai R.length ci) := cell_of_row _ _ 0 _ _ _ (HBL.out wo HBo.out).cell
      have i1 : (0 : Int) ≤ (k : Int) := by omega
      have i2 : (k : Int) < (Bs.length : Int) := by omega
      clear hbm htk hbl hbe hP hcm hcm2
      go_wp2
      clear c1 c2
      go_loopw [5, 25] (fun out i wr => LiRel P R s w out i wr) (fun _ i _ => R.length - (intOf i).toNat)
      case atStart => exact ⟨0, Nat.zero_le _, rfl, by rw [List.take_zero, List.append_nil]; exact HO.out, HBo.out⟩
      case round =>
        obtain ⟨j, hj, rfl, hOj, hbj⟩ := hrel
        obtain ⟨wq, rfl⟩ : ∃ wq : World, wq = wr := ⟨_, rfl⟩
        obtain ⟨Ao, co, rfl, _, _⟩ := (Rd.of_own hOj).form
        have HOj := Lib.hid hOj
        have HBj := Lib.hid hbj
        clear hOj hbj
        by_cases hjl : j < R.length
        · obtain ⟨b1, o1, rfl, hB1, hcell1⟩ := rd_at idC 3 (fun _ => rfl) (by decide) (show Rd wq w.heap.size 3 (.slice Ai (namesR R).length ci) (namesR R).length ((namesR R).flatMap idC) from by rw [names_len]; exact (Rd.of_own (HBL.out w (Below.refl _ _)).ids).below' HBj.out (Nat.le_refl _)) (show j < (namesR R).length by rw [names_len]; exact hjl)
          obtain ⟨b2, o2, rfl, hB2, hcell2⟩ := rd_at boC 1 (fun _ => rfl) (by decide) (show Rd wq w.heap.size 1 (.slice As (seenR R).length cs) (seenR R).length ((seenR R).flatMap boC) from by rw [seenR_len]; exact (Rd.of_own (HBL.out w (Below.refl _ _)).sn).below' HBj.out (Nat.le_refl _)) (show j < (seenR R).length by rw [seenR_len]; exact hjl)
          have hsn : (seenR R)[j]'(by rw [seenR_len]; exact hjl) = (R[j]).2 := by simp [seenR]
          have hnm : (namesR R)[j]'(by rw [names_len]; exact hjl) = (R[j]).1 := by simp [namesR]
          rw [hnm] at hcell1
          rw [hsn] at hcell2
          have hsnoc := listR_snoc (P ++ R.take j) R[j] s
          rw [List.append_assoc, ← List.take_succ_eq_append_getElem hjl] at hsnoc
          obtain ⟨⟨x, q⟩, hx⟩ : ∃ p, R[j] = p := ⟨_, rfl⟩
          rw [hx] at hcell1 hcell2 hsnoc
          dsimp only at hcell1 hcell2 hsnoc
          have hle := listR_le (P ++ R.take j) s
          rw [List.length_append, List.length_take] at hle
          have HBq1 : Below w.heap.size w (wq.alloc (.cells #[.int .i64 x.s.T, .int .i64 x.s.R, .int .i64 x.I] 26)) := HBj.out.alloc HBj.out.size _
          have d0 : wq.cell? ⟨b1, o1 + j * 3, none⟩ = some (.int .i64 x.s.T) := hcell1 0 _ rfl
          have d1 : wq.cell? ⟨b1, o1 + j * 3 + 1, none⟩ = some (.int .i64 x.s.R) := hcell1 1 _ rfl
          have d2 : wq.cell? ⟨b1, o1 + j * 3 + 2, none⟩ = some (.int .i64 x.I) := hcell1 2 _ rfl
          have hwb : b2 < wq.heap.size := Nat.lt_of_lt_of_le hB2 HBj.out.size
          have e0 : (wq.alloc (.cells #[.int .i64 x.s.T, .int .i64 x.s.R, .int .i64 x.I] 26)).cell? ⟨b2, o2 + j, none⟩ = some (.bool q) := by
            rw [World.cell?_of_block (Below.heap_alloc _ _ _ hwb)]
            have := hcell2 0 _ rfl
            simpa using this
          have e1 : (wq.alloc (.cells #[.int .i64 x.s.T, .int .i64 x.s.R, .int .i64 x.I] 26)).cell? ⟨ad, 1, none⟩ = some (.slice (some ⟨b2, o2, none⟩) R.length cs) := cell_of_row _ _ 1 _ _ _ (HBL.out _ HBq1).cell
          have i3 : (0 : Int) ≤ (j : Int) := by omega
          have i4 : (j : Int) < (R.length : Int) := by omega
          have HSN := Lib.hid hsnoc
          have HB1 := Lib.hid HBq1
          have hbx := heap_alloc_new wq (.cells #[.int .i64 x.s.T, .int .i64 x.s.R, .int .i64 x.I] 26)
          have g0 : (wq.alloc (.cells #[.int .i64 x.s.T, .int .i64 x.s.R, .int .i64 x.I] 26)).cell? ⟨wq.heap.size, 0, none⟩ = some (.int .i64 x.s.T) := cell_of_row _ _ 0 _ _ _ hbx
          have g1 : (wq.alloc (.cells #[.int .i64 x.s.T, .int .i64 x.s.R, .int .i64 x.I] 26)).cell? ⟨wq.heap.size, 1, none⟩ = some (.int .i64 x.s.R) := cell_of_row _ _ 1 _ _ _ hbx
          have g2 : (wq.alloc (.cells #[.int .i64 x.s.T, .int .i64 x.s.R, .int .i64 x.I] 26)).cell? ⟨wq.heap.size, 2, none⟩ = some (.int .i64 x.I) := cell_of_row _ _ 2 _ _ _ hbx
          obtain ⟨LL, hLL⟩ : ∃ LL, listR (P ++ R.take j) s = LL := ⟨_, rfl⟩
          rw [hLL] at hle HSN HOj
          have hHOW := (HOj.out.alloc (.cells #[.int .i64 x.s.T, .int .i64 x.s.R, .int .i64 x.I] 26))
          have hHOL := HOj.out
          obtain ⟨LN, hLN⟩ : ∃ n, LL.length = n := ⟨_, rfl⟩
          rw [hLL]
          rw [hLN] at hle hHOW HOj ⊢
          have HOW := Lib.hid hHOW
          have HLN := Lib.hid hLN
          clear hcell1 hcell2 hx hsn hnm hsnoc HBq1 hbx hLL hHOW hHOL hLN
          cases s
          · cases q
            all_goals
              go_wp2_with (at_builtin; refine wpList_append_own_at _ rfl _ _ 31 rfl w.heap.size 26 i0 _ 3 24 Tryd.underlying31 hi hz0 hz1 hz2 rfl (by decide) _ _ _ rfl (HOW.out.alloc _) ⟨wq.heap.size + 1, 0, none⟩ 1 1 (idC x) rfl rfl ?qc (by simp [idC, Value.oneCell']) ?q2 ?q3 ?q4 ?_)
              case qc => (have := cells_new (wq.alloc (.cells #[.int .i64 x.s.T, .int .i64 x.s.R, .int .i64 x.I] 26)) (idC x) 26; rw [World.size_alloc] at this; exact this)
              case q2 => unfold maxLen; omega
              case q3 => omega
              case q4 => have := HBj.out.size; simp; omega
              intro v7 W7 hown7 hgrow7 _ _
              have hb7 : Below w.heap.size w W7 := (HB1.out.alloc HB1.out.size _).grown hgrow7 (by have := HBj.out.size; simp; omega) (fun j hj => (HOj.out.lt j hj).1)
              have HB7 := Lib.hid hb7
              have HSN2 := Lib.hid (show listR (P ++ R.take (j + 1)) false = LL ++ [x] from by rw [HSN.out]; rfl)
              have HO7 := Lib.hid (show W7.ownsRow w.heap.size 26 3 v7 (listR (P ++ R.take (j + 1)) false).length ((listR (P ++ R.take (j + 1)) false).flatMap idC) by rw [HSN2.out, List.length_append, HLN.out, List.flatMap_append, List.flatMap_singleton]; exact hown7)
              clear hown7 hgrow7 hb7 d0 d1 d2 e0 e1 g0 g1 g2
              go_wp2
              go_roundw
              case rel => exact ⟨j + 1, by omega, by go_num, HO7.out, HB7.out⟩
              case measure => simp [intOf]; omega
          · cases q
            · skip
              have HSN2 := Lib.hid (show listR (P ++ R.take (j + 1)) true = LL from by rw [HSN.out]; simp)
              have HO7 := Lib.hid (show (wq.alloc (.cells #[.int .i64 x.s.T, .int .i64 x.s.R, .int .i64 x.I] 26)).ownsRow w.heap.size 26 3 (.slice Ao LN co) (listR (P ++ R.take (j + 1)) true).length ((listR (P ++ R.take (j + 1)) true).flatMap idC) by rw [HSN2.out, HLN.out]; exact HOW.out)
              go_wp2
              go_roundw
              case rel => exact ⟨j + 1, by omega, by go_num, HO7.out, HB1.out⟩
              case measure => simp [intOf]; omega
            · skip
              go_wp2_with (at_builtin; refine wpList_append_own_at _ rfl _ _ 31 rfl w.heap.size 26 i0 _ 3 24 Tryd.underlying31 hi hz0 hz1 hz2 rfl (by decide) _ _ _ rfl (HOW.out.alloc _) ⟨wq.heap.size + 1, 0, none⟩ 1 1 (idC x) rfl rfl ?qc (by simp [idC, Value.oneCell']) ?q2 ?q3 ?q4 ?_)
              case qc => (have := cells_new (wq.alloc (.cells #[.int .i64 x.s.T, .int .i64 x.s.R, .int .i64 x.I] 26)) (idC x) 26; rw [World.size_alloc] at this; exact this)
              case q2 => unfold maxLen; omega
              case q3 => omega
              case q4 => have := HBj.out.size; simp; omega
              intro v7 W7 hown7 hgrow7 _ _
              have hb7 : Below w.heap.size w W7 := (HB1.out.alloc HB1.out.size _).grown hgrow7 (by have := HBj.out.size; simp; omega) (fun j hj => (HOj.out.lt j hj).1)
              have HB7 := Lib.hid hb7
              have HSN2 := Lib.hid (show listR (P ++ R.take (j + 1)) true = LL ++ [x] from by rw [HSN.out]; rfl)
              have HO7 := Lib.hid (show W7.ownsRow w.heap.size 26 3 v7 (listR (P ++ R.take (j + 1)) true).length ((listR (P ++ R.take (j + 1)) true).flatMap idC) by rw [HSN2.out, List.length_append, HLN.out, List.flatMap_append, List.flatMap_singleton]; exact hown7)
              clear hown7 hgrow7 hb7 d0 d1 d2 e0 e1 g0 g1 g2
              go_wp2
              go_roundw
              case rel => exact ⟨j + 1, by omega, by go_num, HO7.out, HB7.out⟩
              case measure => simp [intOf]; omega
        · obtain rfl : j = R.length := by omega
          have hRR : rowOf (Bs.take (k + 1)) = P ++ R.take R.length := by rw [List.take_length]; exact HTK.out
          have HOe := Lib.hid (show wq.ownsRow w.heap.size 26 3 (.slice Ao (listR (P ++ R.take R.length) s).length co) (listR (rowOf (Bs.take (k + 1))) s).length ((listR (rowOf (Bs.take (k + 1))) s).flatMap idC) from by rw [hRR]; exact HOj.out)
          clear hRR
          go_wp2
          go_roundw
          case rel => exact ⟨k + 1, by omega, by go_num, HOe.out, HBj.out⟩
          case measure => simp [intOf]; omega
    · obtain rfl : k = Bs.length := by omega
      have HOe := Lib.hid HO.out
      rw [List.take_length] at HOe
      go_wp2
      go_ret
      exact ⟨_, rfl, HOe.out, HBo.out⟩
end Go.Proofs.YtphapjbfaomblaaDoor
