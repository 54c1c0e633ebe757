/- The document's Find and Within. -/
import Derived.Test.YtejafcdlkpmemaaPA
import Derived.BigQuiet
namespace Go.Proofs.Ytejafcdlkpmemaa
open Go Go.RowKit Go.Maps Go.Shelf
def PIs (L : List Place) (x : Id) (r : Int) : Prop := (∃ (k : Nat) (h : k < L.length), r = (k : Int) ∧ L[k].nd = x ∧ pfind L x = some L[k]) ∨ (r = -1 ∧ pfind L x = none)
theorem pfind_at {L : List Place} {x : Id} {k : Nat} (h : k < L.length) (hno : ∀ p ∈ L.take k, p.nd ≠ x) (hx : L[k].nd = x) : pfind L x = some L[k] := by
  have e : L = L.take k ++ L[k] :: L.drop (k + 1) := by rw [← List.drop_eq_getElem_cons h, List.take_append_drop]
  unfold pfind
  have h1 : (L.take k).find? (fun p => decide (p.nd = x)) = none := by
    rw [List.find?_eq_none]
    intro p hp e
    exact hno p hp (by simpa using e)
  have h2 : (L.take k ++ L[k] :: L.drop (k + 1)).find? (fun p => decide (p.nd = x)) = some L[k] := by
    rw [List.find?_append, h1, Option.none_or, List.find?_cons, hx]
    simp
  rwa [← e] at h2
theorem not_yet {L : List Place} {x : Id} {k : Nat} (h : k < L.length) (hno : ∀ p ∈ L.take k, p.nd ≠ x) (hx : L[k].nd ≠ x) : ∀ p ∈ L.take (k + 1), p.nd ≠ x := by
  rw [List.take_succ_eq_append_getElem h]
  intro p hp
  rcases List.mem_append.1 hp with h1 | h1
  · exact hno p h1
  · rw [List.mem_singleton] at h1; rw [h1]; exact hx
def FiRel (L : List Place) (x : Id) (W0 : World) (i : Value) (wr : World) : Prop := ∃ k : Nat, k ≤ L.length ∧ i = .int .i64 k ∧ (∀ p ∈ L.take k, p.nd ≠ x) ∧ ∃ q, wr = W0.drewN q
set_option maxHeartbeats 2000000 in
theorem find_any (L : List Place) (x : Id) (A : Option Addr) (n c B : Nat) (w : World) (hR : Rd w B 8 (.slice A n c) n (L.flatMap plC)) (hB : B ≤ w.heap.size) :
    Calls Try.prog 45 #[.slice A n c, idV x] w fun e w' => (∃ r, e = .returned (.int .i64 r) ∧ PIs L x r) ∧ Grows w w' := by
  obtain ⟨_, hnc, hcm⟩ := hR.len
  unfold maxLen at hcm
  obtain rfl := len_of plC 8 (fun _ => rfl) (by decide) hR.1
  have HR := Lib.hid hR
  clear hR
  unfold idV
  go_enter Try.func45, Try.ntmps45
  go_wp2
  obtain ⟨W0, hW0⟩ : ∃ W, w.alloc (.cells #[.int .i64 x.s.T, .int .i64 x.s.R, .int .i64 x.I] 26) = W := ⟨_, rfl⟩
  have hg : Grows w W0 := by rw [← hW0]; exact (Grows.refl w).alloc _
  have hb1 : W0.heap[w.heap.size]? = some (.cells #[.int .i64 x.s.T, .int .i64 x.s.R, .int .i64 x.I] 26 (0, 0)) := by rw [← hW0]; exact heap_alloc_new w _
  rw [hW0]
  have c0 : W0.cell? ⟨w.heap.size, 0, none⟩ = some (.int .i64 x.s.T) := cell_of_row _ _ 0 _ _ _ hb1
  have c1 : W0.cell? ⟨w.heap.size, 1, none⟩ = some (.int .i64 x.s.R) := cell_of_row _ _ 1 _ _ _ hb1
  have c2 : W0.cell? ⟨w.heap.size, 2, none⟩ = some (.int .i64 x.I) := cell_of_row _ _ 2 _ _ _ hb1
  have HR2 := Lib.hid (HR.out.below' hg.below hB)
  clear hW0 hb1 HR
  go_loopw [5] (fun i wr => FiRel L x W0 i wr) (fun i _ => L.length - (intOf i).toNat)
  case atStart => exact ⟨0, Nat.zero_le _, rfl, by simp, 0, rfl⟩
  case round =>
    obtain ⟨k, hk, rfl, hno, q, rfl⟩ := hrel
    by_cases hlt : k < L.length
    · obtain ⟨b, o, rfl, hB', hcell⟩ := rd_at plC 8 (fun _ => rfl) (by decide) HR2.out hlt
      have hat := fun h => pfind_at hlt hno h
      have hny := fun h => not_yet hlt hno h
      obtain ⟨p, hp⟩ : ∃ p, L[k] = p := ⟨_, rfl⟩
      have HPe := Lib.hid hp
      rw [hp] at hcell hat hny
      have HAT := Lib.hid hat
      have HNY := Lib.hid hny
      have d0 : W0.cell? ⟨b, o + k * 8, none⟩ = some (.int .i64 p.nd.s.T) := hcell 0 _ rfl
      have d1 : W0.cell? ⟨b, o + k * 8 + 1, none⟩ = some (.int .i64 p.nd.s.R) := hcell 1 _ rfl
      have d2 : W0.cell? ⟨b, o + k * 8 + 2, none⟩ = some (.int .i64 p.nd.I) := hcell 2 _ rfl
      have i1 : (0 : Int) ≤ (k : Int) := by omega
      have i2 : (k : Int) < (L.length : Int) := by omega
      clear hcell hp hat hny hno
      have hq := eql26
      have hgd := gd26
      have hE := eq3_id p.nd x
      by_cases hx : p.nd = x
      · rw [decide_eq_true hx] at hE
        have HX := Lib.hid (show PIs L x (k : Int) from .inl ⟨k, hlt, rfl, by rw [HPe.out]; exact hx, by rw [HAT.out hx, HPe.out]⟩)
        clear hx
        go_wp2
        go_quiet (fail)
        go_wp2
        go_ret
        exact ⟨⟨_, rfl, HX.out⟩, (hg.drewN q).drewN nq⟩
      · rw [decide_eq_false hx] at hE
        have HX := Lib.hid (HNY.out hx)
        clear hx
        go_wp2
        go_quiet (fail)
        go_wp2
        go_roundw
        case rel => exact ⟨k + 1, by omega, by go_num, HX.out, q + nq, rfl⟩
        case measure => simp [intOf]; omega
    · have HX := Lib.hid (show PIs L x (-1) from .inr ⟨rfl, pfind_none.2 (by rw [List.take_of_length_le (by omega)] at hno; exact hno)⟩)
      clear hno
      go_wp2
      go_ret
      exact ⟨⟨_, rfl, HX.out⟩, hg.drewN q⟩
def RwRel (L : List Place) (R : Bool) (up : Id) (Bx Bu : Nat) (w : World) (i : Value) (wr : World) : Prop :=
  ∃ (k : Nat) (y : Id), k ≤ L.length + 1 ∧ i = .int .i64 k ∧ withinGo L (L.length + 1 - k) y up = R ∧ wr.heap[Bx]? = some (.cells #[.int .i64 y.s.T, .int .i64 y.s.R, .int .i64 y.I] 26 (0, 0)) ∧ wr.heap[Bu]? = some (.cells #[.int .i64 up.s.T, .int .i64 up.s.R, .int .i64 up.I] 26 (0, 0)) ∧ Below w.heap.size w wr
set_option maxRecDepth 100000 in
set_option maxHeartbeats 4000000 in
theorem rwithin_any (L : List Place) (x up : Id) (A : Option Addr) (n c B : Nat) (w : World) (hR : Rd w B 8 (.slice A n c) n (L.flatMap plC)) (hB : B ≤ w.heap.size) (hn : n ≤ 100000) :
    Calls Try.prog 42 #[.slice A n c, idV x, idV up] w fun e w' => e = .returned (.bool (withinGo L (L.length + 1) x up)) ∧ Below w.heap.size w w' := by
  obtain rfl := len_of plC 8 (fun _ => rfl) (by decide) hR.1
  have HR := Lib.hid (fun W (hW : Below w.heap.size w W) => hR.below' hW hB)
  have HF := Lib.hid (fun W y (hW : Below w.heap.size w W) => find_any L y A _ c B W (hR.below' hW hB) (Nat.le_trans hB hW.size))
  clear hR
  unfold idV at HF ⊢
  go_enter Try.func42, Try.ntmps42
  go_wp2
  obtain ⟨w0, hw0⟩ : ∃ W, (w.alloc (.cells #[.int .i64 x.s.T, .int .i64 x.s.R, .int .i64 x.I] 26)).alloc (.cells #[.int .i64 up.s.T, .int .i64 up.s.R, .int .i64 up.I] 26) = W := ⟨_, rfl⟩
  have hg0 : Grows w w0 := by rw [← hw0]; exact ((Grows.refl w).alloc _).alloc _
  have hx0 : w0.heap[w.heap.size]? = some (.cells #[.int .i64 x.s.T, .int .i64 x.s.R, .int .i64 x.I] 26 (0, 0)) := by rw [← hw0]; exact (Below.heap_alloc _ _ _ (by simp)).trans (heap_alloc_new w _)
  have hu0 : w0.heap[w.heap.size + 1]? = some (.cells #[.int .i64 up.s.T, .int .i64 up.s.R, .int .i64 up.I] 26 (0, 0)) := by
    rw [← hw0]
    have := heap_alloc_new (w.alloc (.cells #[.int .i64 x.s.T, .int .i64 x.s.R, .int .i64 x.I] 26)) (.cells #[.int .i64 up.s.T, .int .i64 up.s.R, .int .i64 up.I] 26)
    rwa [World.size_alloc] at this
  rw [hw0]
  obtain ⟨Bx, hBx⟩ : ∃ k, w.heap.size = k := ⟨_, rfl⟩
  obtain ⟨Bu, hBu⟩ : ∃ k, w.heap.size + 1 = k := ⟨_, rfl⟩
  rw [hBu] at hu0 ⊢
  rw [hBx] at hx0 ⊢
  have hb0 := hg0.below
  have HBB := Lib.hid (show Bx = w.heap.size ∧ Bu = w.heap.size + 1 by omega)
  obtain ⟨R, hRe⟩ : ∃ R, withinGo L (L.length + 1) x up = R := ⟨_, rfl⟩
  have HRe := Lib.hid hRe
  clear hw0 hg0 hBx hBu
  go_loopw [7] (fun i wr => RwRel L R up Bx Bu w i wr) (fun i _ => L.length + 1 - (intOf i).toNat)
  case atStart => exact ⟨0, x, Nat.zero_le _, rfl, HRe.out, hx0, hu0, hb0⟩
  case round =>
    clear hx0 hu0 hb0 hRe
    obtain ⟨k, y, hk, rfl, hgo, hxr, hur, hBw⟩ := hrel
    have HX := Lib.hid hxr
    have HU := Lib.hid hur
    have HBw := Lib.hid hBw
    have hxl := (Array.getElem?_eq_some_iff.1 hxr).1
    have hul := (Array.getElem?_eq_some_iff.1 hur).1
    have hne : Bx ≠ Bu := by have := HBB.out; omega
    have e0 : wr.cell? ⟨Bx, 0, none⟩ = some (.int .i64 y.s.T) := cell_of_row _ _ 0 _ _ _ hxr
    have e1 : wr.cell? ⟨Bx, 1, none⟩ = some (.int .i64 y.s.R) := cell_of_row _ _ 1 _ _ _ hxr
    have e2 : wr.cell? ⟨Bx, 2, none⟩ = some (.int .i64 y.I) := cell_of_row _ _ 2 _ _ _ hxr
    have f0 : wr.cell? ⟨Bu, 0, none⟩ = some (.int .i64 up.s.T) := cell_of_row _ _ 0 _ _ _ hur
    have f1 : wr.cell? ⟨Bu, 1, none⟩ = some (.int .i64 up.s.R) := cell_of_row _ _ 1 _ _ _ hur
    have f2 : wr.cell? ⟨Bu, 2, none⟩ = some (.int .i64 up.I) := cell_of_row _ _ 2 _ _ _ hur
    by_cases hlt : k ≤ L.length
    · obtain ⟨m', hm'⟩ : ∃ m', L.length + 1 - k = m' + 1 := ⟨L.length - k, by omega⟩
      rw [hm', withinGo] at hgo
      have hlt' : (k : Int) ≤ (L.length : Int) := by omega
      have hq := eql26
      have hgd := gd26
      have hE := eq3_id y up
      clear hxr hur
      by_cases hyu : y = up
      · rw [if_pos hyu] at hgo
        rw [decide_eq_true hyu] at hE
        have HGo := Lib.hid hgo
        clear hyu hgo
        go_wp2
        go_ret
        exact ⟨ret_b (by rw [HRe.out]; exact HGo.out), HBw.out⟩
      · rw [if_neg hyu] at hgo
        rw [decide_eq_false hyu] at hE
        have HGo := Lib.hid hgo
        clear hyu hgo
        go_wp2_with fail
        refine (HF.out wr y hBw).mono ?_
        rintro e w4 ⟨⟨r, rfl, hr⟩, hg4⟩
        have hb4 := hg4.below
        have HB4 := Lib.hid (hBw.trans (hb4.mono hBw.size))
        have hxr4 := (hb4.block _ hxl).trans HX.out
        have hur4 := (hb4.block _ hul).trans HU.out
        rcases hr with ⟨j, hj, rfl, hjn, hjf⟩ | ⟨rfl, hjf⟩
        · rw [hjf] at HGo
          obtain ⟨b, o, rfl, hB', hcell⟩ := rd_at plC 8 (fun _ => rfl) (by decide) (HR.out w4 HB4.out) hj
          obtain ⟨p, hp⟩ : ∃ p, L[j] = p := ⟨_, rfl⟩
          rw [hp] at hcell HGo
          have c3 := hcell 3 _ rfl
          have c4 := hcell 4 _ rfl
          have c5 := hcell 5 _ rfl
          have z0 : ∀ i, w4.frozen? ⟨Bx, i, none⟩ = false := fun i => by simp [World.frozen?, hxr4]
          have i1 : (0 : Int) ≤ (j : Int) := by omega
          have i2 : (j : Int) < (L.length : Int) := by omega
          have i3 : ¬ (j : Int) < 0 := by omega
          have hxl4 := (Array.getElem?_eq_some_iff.1 hxr4).1
          have x0 : w4.cell? ⟨Bx, 0, none⟩ = some (.int .i64 y.s.T) := cell_of_row _ _ 0 _ _ _ hxr4
          have x1 : w4.cell? ⟨Bx, 1, none⟩ = some (.int .i64 y.s.R) := cell_of_row _ _ 1 _ _ _ hxr4
          have x2 : w4.cell? ⟨Bx, 2, none⟩ = some (.int .i64 y.I) := cell_of_row _ _ 2 _ _ _ hxr4
          have HX4 := Lib.hid hxr4
          have HU4 := Lib.hid hur4
          clear hcell hp hjf hjn hxr4 hur4 e0 e1 e2 f0 f1 f2 hE hb4 hg4 hBw
          go_wp2
          have q := HBB.out
          have hle : w.heap.size ≤ Bx := by omega
          have hb3 := ((HB4.out.setCell (p := ⟨Bx, 0, none⟩) hle (.int .i64 p.pa.s.T)).setCell (p := ⟨Bx, 1, none⟩) hle (.int .i64 p.pa.s.R)).setCell (p := ⟨Bx, 2, none⟩) hle (.int .i64 p.pa.I)
          refine ⟨⟨k + 1, p.pa, by omega, by go_num, ?_, set3_heap HX4.out, (set3_other hne.symm).trans HU4.out, hb3⟩, by simp [intOf]; omega⟩
          rw [show L.length + 1 - (k + 1) = m' by omega]; exact HGo.out
        · rw [hjf] at HGo
          clear hjf hxr4 hur4 e0 e1 e2 f0 f1 f2 hE hb4 hg4 hBw
          go_wp2
          go_ret
          exact ⟨ret_b (by rw [HRe.out]; exact HGo.out), HB4.out⟩
    · obtain rfl : k = L.length + 1 := by omega
      rw [Nat.sub_self, withinGo] at hgo
      have HGo := Lib.hid hgo
      have i9 : ¬ ((L.length : Int) + 1 ≤ (L.length : Int)) := by omega
      clear hgo hxr hur
      go_wp2
      go_ret
      exact ⟨ret_b (by rw [HRe.out]; exact HGo.out), HBw.out⟩
end Go.Proofs.Ytejafcdlkpmemaa
