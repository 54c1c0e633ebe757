/- The shelf's small functions: new, all, count, add; the place of an id in a row. -/
import Derived.Test.YtphapjbfaomblaaSA
import Derived.BigQuiet
import Derived.Maps.OwnSet
namespace Go.Proofs.Ytphapjbfaomblaa
open Go Go.RowKit Go.Maps
theorem heap_setCell3 {w : World} {g : Nat} {a b c : Value} {t : TypeId} (h : w.heap[g]? = some (.cells #[a, b, c] t (0, 0))) (v : Value) :
    (w.setCell ⟨g, 0, none⟩ v).heap[g]? = some (.cells #[v, b, c] t (0, 0)) ∧ (w.setCell ⟨g, 1, none⟩ v).heap[g]? = some (.cells #[a, v, c] t (0, 0)) ∧ (w.setCell ⟨g, 2, none⟩ v).heap[g]? = some (.cells #[a, b, v] t (0, 0)) := by
  simp [World.setCell, Array.getElem?_modify, h]
theorem touch_set (w : World) (g i : Nat) (v : Value) : Touch (fun x => x = g) w (w.setCell ⟨g, i, none⟩ v) := (Touch.refl (fun x => x = g) w).setCell (fun _ => rfl) v
theorem ShIs.at {w : World} {sb mp : Nat} {vb : Value} {Bs : List Bl} {D : DataW (Option Nat)} {t : Int} (h : ShIs w sb mp vb Bs D t) {i : Nat} (hi : i < Bs.length) :
    ∃ g cap, vb = .slice (some ⟨g, 0, none⟩) Bs.length cap ∧ w.cell? ⟨g, i, none⟩ = some (.pointer (some ⟨Bs[i].ad, 0, none⟩)) ∧ g < w.heap.size := by
  obtain ⟨g, cap, R, rfl, _, hl, _, _, _, _⟩ := own_parts h.row (by omega)
  refine ⟨g, cap, rfl, (own_cell h.row i _ ?_).1, hl⟩
  have := flat_at ptC 1 (fun _ => rfl) (Bs.map Bl.ad) i (by simpa using hi) 0 (by decide)
  rw [Nat.mul_one, Nat.add_zero] at this
  rw [this]
  simp [ptC]
theorem count_any {w : World} {sb mp : Nat} {vb : Value} {Bs : List Bl} {D : DataW (Option Nat)} {t : Int} (h : ShIs w sb mp vb Bs D t) :
    Calls Try.prog 12 #[.pointer (some ⟨sb, 0, none⟩)] w fun e w' => e = .returned (.int .i64 t) ∧ w' = w := by
  have c2 : w.cell? ⟨sb, 2, none⟩ = some (.int .i64 t) := cell_of_row _ _ 2 _ _ _ h.cell
  clear h
  go_enter Try.func12, Try.ntmps12
  go_wp2
  go_ret
  exact ⟨rfl, rfl⟩
theorem all_any {w : World} {sb mp : Nat} {vb : Value} {Bs : List Bl} {D : DataW (Option Nat)} {t : Int} (h : ShIs w sb mp vb Bs D t) :
    Calls Try.prog 8 #[.pointer (some ⟨sb, 0, none⟩)] w fun e w' => e = .returned (.int .i64 (Maps.size D)) ∧ w' = w := by
  have c1 : w.cell? ⟨sb, 1, none⟩ = some (.map (some mp)) := cell_of_row _ _ 1 _ _ _ h.cell
  have hl := fun ty => h.map.len Try.underlying54 ty
  clear h
  go_enter Try.func8, Try.ntmps8
  go_wp2
  go_ret
  exact ⟨rfl, rfl⟩
theorem add_any {w : World} {sb mp : Nat} {vb : Value} {pre post : List Bl} {b : Bl} {D : DataW (Option Nat)} {t : Int} (h : ShIs w sb mp vb (pre ++ b :: post) D t) (k : Int) (hk : -1 ≤ k ∧ k ≤ 1) (ht : 0 ≤ t ∧ t ≤ 100000) (hn : 0 ≤ b.n ∧ b.n ≤ 100000) :
    Calls Try.prog 27 #[.pointer (some ⟨sb, 0, none⟩), .pointer (some ⟨b.ad, 0, none⟩), .int .i64 k] w fun e w' => (∃ v, e = .returned v) ∧ ShIs w' sb mp vb (pre ++ { b with n := b.n + k } :: post) D (t + k) ∧ Touch (fun x => x = b.ad ∨ x = sb) w w' := by
  have hb := h.bl b (by simp)
  obtain ⟨ad, vi, vs, n, R⟩ := b
  dsimp only at hn hb ⊢
  have hne : sb ≠ ad := fun e => (h.blNot (.inl e)).1 rfl
  have hcell := hb.cell
  dsimp only at hcell
  obtain ⟨w1, hw1⟩ : ∃ w1, w.setCell ⟨ad, 2, none⟩ (.int .i64 (n + k)) = w1 := ⟨_, rfl⟩
  have hc1 : w1.heap[ad]? = some (.cells #[vi, vs, .int .i64 (n + k)] 63 (0, 0)) := by rw [← hw1]; exact (heap_setCell3 hcell _).2.2
  have t1 : Touch (fun x => x = ad) w w1 := by rw [← hw1]; exact touch_set w _ _ _
  have h1 : ShIs w1 sb mp vb (pre ++ ⟨ad, vi, vs, n + k, R⟩ :: post) D t := by
    refine h.change (t1.mono (fun x _ hx => .inl hx)) ⟨hc1, own_touch hb.ids t1 (fun g hg => ?_), own_touch hb.sn t1 (fun g hg => ?_)⟩ rfl (.inl rfl) (.inl rfl)
    · exact ne_kind (kind_row hb.ids hg) (kind_cell hcell) (by decide)
    · exact ne_kind (kind_row hb.sn hg) (kind_cell hcell) (by decide)
  obtain ⟨w2, hw2⟩ : ∃ w2, w1.setCell ⟨sb, 2, none⟩ (.int .i64 (t + k)) = w2 := ⟨_, rfl⟩
  have t2 : Touch (fun x => x = sb) w1 w2 := by rw [← hw2]; exact touch_set w1 _ _ _
  have h2 : ShIs w2 sb mp vb (pre ++ ⟨ad, vi, vs, n + k, R⟩ :: post) D (t + k) := h1.recount t2 (by rw [← hw2]; exact (heap_setCell3 h1.cell _).2.2)
  have hT : Touch (fun x => x = ad ∨ x = sb) w w2 := (t1.mono (G := fun x => x = ad ∨ x = sb) (fun x _ hx => .inl hx)).trans t2 (fun x _ hx => .inr hx)
  have HFIN := Lib.hid (And.intro h2 hT)
  have c0 : w.cell? ⟨ad, 2, none⟩ = some (.int .i64 n) := cell_of_row _ _ 2 _ _ _ hcell
  have f0 : ∀ i, w.frozen? ⟨ad, i, none⟩ = false := fun i => by simp [World.frozen?, hcell]
  have c1 : (w.setCell ⟨ad, 2, none⟩ (.int .i64 (n + k))).cell? ⟨sb, 2, none⟩ = some (.int .i64 t) := by rw [hw1]; exact cell_of_row _ _ 2 _ _ _ h1.cell
  have f1 : ∀ i, w.frozen? ⟨sb, i, none⟩ = false := fun i => by simp [World.frozen?, h.cell]
  have a1 : IntKind.i64.wrap (n + k) = n + k := IntWalk.i64_in _ (by omega)
  have a2 : IntKind.i64.wrap (t + k) = t + k := IntWalk.i64_in _ (by omega)
  have HW1 := Lib.hid hw1
  have HW2 := Lib.hid hw2
  clear h hb hcell hw1 hc1 t1 h1 hw2 t2 h2 hT hk hn
  go_enter Try.func27, Try.ntmps27
  go_wp2
  go_end0
  rw [HW1.out, HW2.out]
  exact ⟨⟨_, rfl⟩, HFIN.out⟩
theorem new_any (w : World) : Calls Try.prog 7 #[] w fun e w' => ∃ sb, e = .returned (.pointer (some ⟨sb, 0, none⟩)) ∧ w.heap.size ≤ sb ∧ ShelfAt w' (fun k => w.heap.size ≤ k ∧ k < w'.heap.size) sb [] ∧ Below w.heap.size w w' := by
  have hm := World.ownsMap_made (H := Option Nat) w Try.prog 33 (objElem ptV)
  obtain ⟨w1, hw1⟩ : ∃ w1, w.alloc (.map #[] 0) = w1 := ⟨_, rfl⟩
  have hs1 : w1.heap.size = w.heap.size + 1 := by rw [← hw1]; simp
  rw [hw1] at hm
  obtain ⟨w2, hw2⟩ : ∃ w2, w1.alloc (.cells #[.slice none 0 0, .map (some w.heap.size), .int .i64 0] 57) = w2 := ⟨_, rfl⟩
  have hs2 : w2.heap.size = w.heap.size + 2 := by rw [← hw2]; simp [hs1]
  have hc : w2.heap[w1.heap.size]? = some (.cells #[.slice none 0 0, .map (some w.heap.size), .int .i64 0] 57 (0, 0)) := by rw [← hw2]; exact heap_alloc_new w1 _
  have hm2 : w2.ownsMap Try.prog 33 (objElem ptV) w.heap.size 0 (.map []) := map_touch hm (by rw [← hw2]; exact (Touch.refl (fun _ => False) w1).alloc _) (fun h => h)
  have hb : Below w.heap.size w w2 := by rw [← hw2, ← hw1]; exact ((Below.refl _ w).alloc (Nat.le_refl _) _).alloc (by simp) _
  have hS : ShelfAt w2 (fun k => w.heap.size ≤ k ∧ k < w2.heap.size) w1.heap.size [] := by
    refine ⟨w.heap.size, .slice none 0 0, [], .map [], 0, ⟨hc, World.ownsRow_nil _ _ _ _, fun b hb => by simp at hb, hm2, List.Pairwise.nil⟩, ⟨rfl, List.nodup_nil, fun b hb => by simp at hb, rfl, rfl, FMap.start _⟩, fun k hk => ?_, fun k hk => hk.2, Nat.le_refl _⟩
    rcases hk with rfl | rfl | hk | ⟨b, hb, _⟩
    · omega
    · omega
    · cases hk
    · simp at hb
  have HF := Lib.hid (show w.heap.size ≤ w.heap.size + 1 ∧ ShelfAt w2 (fun k => w.heap.size ≤ k ∧ k < w2.heap.size) (w.heap.size + 1) [] ∧ Below w.heap.size w w2 from by rw [← hs1]; exact ⟨by omega, hS, hb⟩)
  have HW1 := Lib.hid hw1
  have HW2 := Lib.hid hw2
  clear hm hs1 hs2 hc hm2 hb hS hw1 hw2
  have hmm := @run_makeMap Try.prog
  go_enter Try.func7, Try.ntmps7
  go_wp2
  go_ret
  rw [HW1.out, HW2.out]
  exact ⟨_, rfl, HF.out⟩
def AtIs (L : List Id) (x : Id) (r : Int) : Prop := (∃ (k : Nat) (h : k < L.length), r = (k : Int) ∧ L[k] = x ∧ x ∉ L.take k) ∨ (r = -1 ∧ x ∉ L)
theorem at_ix {R : Row Id} {x : Id} {r : Int} (h : AtIs (namesR R) x r) (hx : x ∈ namesR R) : r = (ixR R x : Int) := by
  rcases h with ⟨k, hk, rfl, h1, h2⟩ | ⟨_, h⟩
  · have hk' : k < R.length := by rw [← names_len]; exact hk
    rw [ixR_eq hk' (by simpa [namesR] using h1) (fun j hj e => h2 ?_)]
    rw [List.mem_take_iff_getElem]
    exact ⟨j, by rw [names_len]; omega, by simpa [namesR] using e⟩
  · exact absurd hx h
def AtRel (L : List Id) (x : Id) (W0 : World) (i : Value) (wr : World) : Prop := ∃ k : Nat, k ≤ L.length ∧ i = .int .i64 k ∧ x ∉ L.take k ∧ ∃ q, wr = W0.drewN q
theorem eq3_id (a b : Id) : eq3 a.s.T a.s.R a.I b.s.T b.s.R b.I = decide (a = b) := eq3_iff a b
set_option maxHeartbeats 2000000 in
theorem index_any (L : List Id) (x : Id) (A : Option Addr) (n c B : Nat) (w : World) (hR : Rd w B 3 (.slice A n c) n (L.flatMap idC)) (hB : B ≤ w.heap.size) :
    Calls Try.prog 29 #[.slice A n c, idV x] w fun e w' => (∃ r, e = .returned (.int .i64 r) ∧ AtIs L x r) ∧ Grows w w' := by
  obtain ⟨_, hnc, hcm⟩ := hR.len
  unfold maxLen at hcm
  obtain rfl := len_of idC 3 (fun _ => rfl) (by decide) hR.1
  have HR := Lib.hid hR
  clear hR
  unfold idV
  go_enter Try.func29, Try.ntmps29
  go_wp2
  obtain ⟨W0, hW0⟩ : ∃ W, w.alloc (.cells #[.int .i64 x.s.T, .int .i64 x.s.R, .int .i64 x.I] 33) = W := ⟨_, rfl⟩
  have hg : Grows w W0 := by rw [← hW0]; exact (Grows.refl w).alloc _
  have hb1 : W0.heap[w.heap.size]? = some (.cells #[.int .i64 x.s.T, .int .i64 x.s.R, .int .i64 x.I] 33 (0, 0)) := by rw [← hW0]; exact heap_alloc_new w _
  rw [hW0]
  have c0 : W0.cell? ⟨w.heap.size, 0, none⟩ = some (.int .i64 x.s.T) := cell_of_row _ _ 0 _ _ _ hb1
  have c1 : W0.cell? ⟨w.heap.size, 1, none⟩ = some (.int .i64 x.s.R) := cell_of_row _ _ 1 _ _ _ hb1
  have c2 : W0.cell? ⟨w.heap.size, 2, none⟩ = some (.int .i64 x.I) := cell_of_row _ _ 2 _ _ _ hb1
  have HR2 := Lib.hid (HR.out.below' hg.below hB)
  clear hW0 hb1 HR
  go_loopw [8] (fun i wr => AtRel L x W0 i wr) (fun i _ => L.length - (intOf i).toNat)
  case atStart => exact ⟨0, Nat.zero_le _, rfl, by simp, 0, rfl⟩
  case round =>
    obtain ⟨k, hk, rfl, hno, q, rfl⟩ := hrel
    by_cases hlt : k < L.length
    · obtain ⟨b, o, rfl, hB', hcell⟩ := rd_at idC 3 (fun _ => rfl) (by decide) HR2.out hlt
      have htk := List.take_succ_eq_append_getElem hlt
      obtain ⟨p, hp⟩ : ∃ p, L[k] = p := ⟨_, rfl⟩
      have HPe := Lib.hid hp
      rw [hp] at hcell htk
      have HTK := Lib.hid htk
      have HNO := Lib.hid hno
      have d0 : W0.cell? ⟨b, o + k * 3, none⟩ = some (.int .i64 p.s.T) := hcell 0 _ rfl
      have d1 : W0.cell? ⟨b, o + k * 3 + 1, none⟩ = some (.int .i64 p.s.R) := hcell 1 _ rfl
      have d2 : W0.cell? ⟨b, o + k * 3 + 2, none⟩ = some (.int .i64 p.I) := hcell 2 _ rfl
      have i1 : (0 : Int) ≤ (k : Int) := by omega
      have i2 : (k : Int) < (L.length : Int) := by omega
      have hq := eql26
      have hgd := gd26
      have hE := eq3_id x p
      clear hcell hp htk hno
      by_cases hpx : x = p
      · rw [decide_eq_true hpx] at hE
        have HPX := Lib.hid hpx
        clear hpx
        go_wp2
        go_quiet (fail)
        go_wp2
        go_ret
        exact ⟨⟨_, rfl, .inl ⟨k, hlt, rfl, by rw [HPe.out]; exact HPX.out.symm, HNO.out⟩⟩, hg.trans (((Grows.refl W0).drewN _).drewN _)⟩
      · rw [decide_eq_false hpx] at hE
        have HPX := Lib.hid hpx
        clear hpx
        go_wp2
        go_quiet (fail)
        go_wp2
        go_roundw
        case rel =>
          refine ⟨k + 1, by omega, by go_num, ?_, _, rfl⟩
          rw [HTK.out, List.mem_append, List.mem_singleton]
          rintro (h | h)
          · exact HNO.out h
          · exact HPX.out h
        case measure => simp [intOf]; omega
    · obtain rfl : k = L.length := by omega
      rw [List.take_length] at hno
      have HNO := Lib.hid hno
      clear hno hk
      go_wp2
      go_ret
      exact ⟨⟨_, rfl, .inr ⟨rfl, HNO.out⟩⟩, hg.trans ((Grows.refl W0).drewN _)⟩
end Go.Proofs.Ytphapjbfaomblaa
