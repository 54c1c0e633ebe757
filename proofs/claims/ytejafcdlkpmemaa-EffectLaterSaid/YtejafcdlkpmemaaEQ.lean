/- effect's awake. -/
import Derived.Test.YtejafcdlkpmemaaED
import Derived.Test.YtejafcdlkpmemaaEI
import Derived.Test.YtejafcdlkpmemaaI
namespace Go.Proofs.Ytejafcdlkpmemaa
open Go Go.RowKit Go.Maps Go.Shelf
def eNames : List Stamp := [st 1 1, st 2 1, st 3 1]
def eUndo : List Stamp := [zeroS, st 1 1, st 2 1]
theorem eOn {L : List Stamp} (h : OnIs (zipH eNames eUndo) L) : L = [st 1 1, st 3 1] :=
  h.same ⟨_, headsOf_self (by simp [zipH, eNames, eUndo, Stamp.Lt, st]), rfl⟩
theorem eRoot : rootGo (zipH eNames eUndo) zeroS (min eNames.length eUndo.length + 1) (st 3 1) true = .root (st 1 1) true := by rfl
set_option maxRecDepth 100000 in
set_option maxHeartbeats 2000000 in
theorem eawake_any (w : World) : Calls Try.prog 28 #[] w fun e w' => e = .returned (.bool true) ∧ Below w.heap.size w w' := by
  go_enter Try.func28, Try.ntmps28
  go_wp2
  obtain ⟨w0, hw0⟩ : ∃ W, ((w.alloc (.cells #[.int .i64 1, .int .i64 1] 24)).alloc (.cells #[.int .i64 2, .int .i64 1] 24)).alloc (.cells #[.int .i64 3, .int .i64 1] 24) = W := ⟨_, rfl⟩
  have hg0 : Grows w w0 := by rw [← hw0]; exact (((Grows.refl w).alloc _).alloc _).alloc _
  have hs0 : w0.heap.size = w.heap.size + 3 := by rw [← hw0]; simp
  have hA : w0.heap[w.heap.size]? = some (.cells #[.int .i64 1, .int .i64 1] 24 (0, 0)) := by
    rw [← hw0]
    exact ((((Grows.refl (w.alloc (.cells #[.int .i64 1, .int .i64 1] 24))).alloc _).alloc _).below.block w.heap.size (by simp)).trans (heap_alloc_new w _)
  have hBb : w0.heap[w.heap.size + 1]? = some (.cells #[.int .i64 2, .int .i64 1] 24 (0, 0)) := by
    rw [← hw0]
    have := heap_alloc_new (w.alloc (.cells #[.int .i64 1, .int .i64 1] 24)) (.cells #[.int .i64 2, .int .i64 1] 24)
    rw [World.size_alloc] at this
    exact (Below.heap_alloc _ _ _ (by simp)).trans this
  have hC : w0.heap[w.heap.size + 1 + 1]? = some (.cells #[.int .i64 3, .int .i64 1] 24 (0, 0)) := by
    rw [← hw0]
    have := heap_alloc_new ((w.alloc (.cells #[.int .i64 1, .int .i64 1] 24)).alloc (.cells #[.int .i64 2, .int .i64 1] 24)) (.cells #[.int .i64 3, .int .i64 1] 24)
    rwa [World.size_alloc, World.size_alloc] at this
  rw [hw0]
  obtain ⟨ba, hba⟩ : ∃ k, w.heap.size = k := ⟨_, rfl⟩
  obtain ⟨bb, hbb⟩ : ∃ k, w.heap.size + 1 = k := ⟨_, rfl⟩
  obtain ⟨bc, hbc⟩ : ∃ k, w.heap.size + 1 + 1 = k := ⟨_, rfl⟩
  rw [hbc] at hC ⊢
  rw [hbb] at hBb ⊢
  rw [hba] at hA ⊢
  have hla := (Array.getElem?_eq_some_iff.1 hA).1
  have hlb := (Array.getElem?_eq_some_iff.1 hBb).1
  have hlc := (Array.getElem?_eq_some_iff.1 hC).1
  have HS := Lib.hid (fun W' (hW : Below w0.heap.size w0 W') => (show W'.cell? ⟨ba, 0, none⟩ = some (.int .i64 1) ∧ W'.cell? ⟨ba, 1, none⟩ = some (.int .i64 1) ∧ W'.cell? ⟨bb, 0, none⟩ = some (.int .i64 2) ∧ W'.cell? ⟨bb, 1, none⟩ = some (.int .i64 1) ∧ W'.cell? ⟨bc, 0, none⟩ = some (.int .i64 3) ∧ W'.cell? ⟨bc, 1, none⟩ = some (.int .i64 1) from
    ⟨(hW.cell (p := ⟨ba, 0, none⟩) hla).trans (cell_of_row _ _ 0 _ _ _ hA), (hW.cell (p := ⟨ba, 1, none⟩) hla).trans (cell_of_row _ _ 1 _ _ _ hA), (hW.cell (p := ⟨bb, 0, none⟩) hlb).trans (cell_of_row _ _ 0 _ _ _ hBb), (hW.cell (p := ⟨bb, 1, none⟩) hlb).trans (cell_of_row _ _ 1 _ _ _ hBb), (hW.cell (p := ⟨bc, 0, none⟩) hlc).trans (cell_of_row _ _ 0 _ _ _ hC), (hW.cell (p := ⟨bc, 1, none⟩) hlc).trans (cell_of_row _ _ 1 _ _ _ hC)⟩))
  have HG0 := Lib.hid hg0
  have HSZ := Lib.hid (show w0.heap.size = w.heap.size + 3 ∧ ba = w.heap.size ∧ bb = w.heap.size + 1 ∧ bc = w.heap.size + 2 by omega)
  clear hw0 hg0 hs0 hA hBb hC hba hbb hbc
  have k1 : Below w0.heap.size w0 w0.drew := (Below.refl _ w0).drew
  go_region_held3 (fun w' => w'.cell? ⟨ba, 0, none⟩ = some (.int .i64 1) ∧ w'.cell? ⟨ba, 1, none⟩ = some (.int .i64 1) ∧ w'.cell? ⟨bb, 0, none⟩ = some (.int .i64 2) ∧ w'.cell? ⟨bb, 1, none⟩ = some (.int .i64 1) ∧ w'.cell? ⟨bc, 0, none⟩ = some (.int .i64 3) ∧ w'.cell? ⟨bc, 1, none⟩ = some (.int .i64 1))
    (exact HS.out _ (by first | assumption | exact (((Below.refl _ w0).alloc (Nat.le_refl _) _).alloc (by simp) _).drew | exact ((Below.refl _ w0).alloc (Nat.le_refl _) _).drew | exact (((Below.refl _ w0).drew.alloc (Nat.le_refl _) _).alloc (by simp) _) | exact ((Below.refl _ w0).drew.alloc (Nat.le_refl _) _))) (fail)
  · obtain ⟨W1, hW1⟩ : ∃ W, w0.alloc (.cells #[.int .i64 1, .int .i64 1, .int .i64 2, .int .i64 1, .int .i64 3, .int .i64 1] 24) = W := ⟨_, rfl⟩
    obtain ⟨W4, hW4⟩ : ∃ W, (W1.alloc (.cells #[.int .i64 0, .int .i64 0, .int .i64 1, .int .i64 1, .int .i64 2, .int .i64 1] 24)).drew = W := ⟨_, rfl⟩
    have hh1 : W1.heap[w0.heap.size]? = some (.cells (eNames.flatMap stC).toArray 24 (0, 0)) := by rw [← hW1]; exact heap_alloc_new w0 _
    have hg1 : Grows w0 W1 := by rw [← hW1]; exact (Grows.refl w0).alloc _
    have hs1 : W1.heap.size = w0.heap.size + 1 := by rw [← hW1]; simp
    have hh2 : W4.heap[w0.heap.size + 1]? = some (.cells (eUndo.flatMap stC).toArray 24 (0, 0)) := by
      rw [← hW4]
      have := heap_alloc_new W1 (.cells #[.int .i64 0, .int .i64 0, .int .i64 1, .int .i64 1, .int .i64 2, .int .i64 1] 24)
      rwa [hs1] at this
    have hg4 : Grows W1 W4 := by rw [← hW4]; exact ((Grows.refl W1).alloc _).drewN 1
    have hh1' := (hg4.below.block _ (Array.getElem?_eq_some_iff.1 hh1).1).trans hh1
    rw [hW1, hW4]
    obtain ⟨b1, hb1⟩ : ∃ k, w0.heap.size = k := ⟨_, rfl⟩
    obtain ⟨b2, hb2⟩ : ∃ k, w0.heap.size + 1 = k := ⟨_, rfl⟩
    rw [hb2] at hh2 ⊢
    rw [hb1] at hh1' ⊢
    have hG := HG0.out.trans (hg1.trans hg4)
    have hR1 := rd_new (n := 3) (K := 2) hh1' rfl (by unfold maxLen; omega)
    have hR2 := rd_new (n := 3) (K := 2) hh2 rfl (by unfold maxLen; omega)
    have HSZ4 := (hg1.trans hg4).below
    clear hW1 hW4 hh1 hg1 hs1 hh2 hg4 hh1' hb1 hb2 k1
    go_wp2_with fail
    refine (on_any eNames eUndo _ _ 3 3 3 3 W4.heap.size W4 hR1 hR2 (Nat.le_refl _) (by omega)).mono ?_
    rintro e W5 ⟨v, L, rfl, hO, hL, _, hb5⟩
    obtain rfl := eOn hL
    have hO5 := Lib.hid hO
    obtain ⟨Av, cv, rfl, _, _⟩ := (Rd.of_own hO).form
    have hB5 := HSZ4.trans (hb5.mono HSZ4.size)
    obtain ⟨a0, a1, p0, p1, c0, c1⟩ := HS.out W5 hB5
    have hR5 := Lib.hid (hR1.below' hb5 (Nat.le_refl _))
    have hR6 := Lib.hid (hR2.below' hb5 (Nat.le_refl _))
    clear hO hL hR1 hR2
    go_wp2_with fail
    refine (root_any eNames eUndo (st 3 1) _ _ 3 3 3 3 W4.heap.size W5 hR5.out hR6.out hb5.size (by omega)).mono ?_
    rintro e W6 ⟨he, hb6⟩
    rw [eRoot] at he
    change e = .returned (.tuple #[.agg #[.int .i64 1, .int .i64 1], .bool true, .int .i64 0]) at he
    subst he
    have hB6 := hB5.trans (hb6.mono hB5.size)
    clear a0 a1 p0 p1 c0 c1
    have hB7 := hB6.alloc hB6.size (.cells #[.int .i64 1, .int .i64 1] 24)
    obtain ⟨a0, a1, p0, p1, c0, c1⟩ := HS.out (W6.alloc (.cells #[.int .i64 1, .int .i64 1] 24)) hB7
    have hq := eql24
    have hgd := gd24
    have hEq : eq2 1 1 1 1 = true := by decide
    go_wp2_with fail
    obtain ⟨W7, hW7⟩ : ∃ W, W6.alloc (.cells #[.int .i64 1, .int .i64 1] 24) = W := ⟨_, rfl⟩
    obtain ⟨W8, hW8⟩ : ∃ W, W7.alloc (.cells #[.int .i64 1, .int .i64 1, .int .i64 3, .int .i64 1] 24) = W := ⟨_, rfl⟩
    have hg7 : Grows W6 W7 := by rw [← hW7]; exact (Grows.refl W6).alloc _
    have hg8 : Grows W7 W8 := by rw [← hW8]; exact (Grows.refl W7).alloc _
    have hh8 : W8.heap[W7.heap.size]? = some (.cells ([st 1 1, st 3 1].flatMap stC).toArray 24 (0, 0)) := by rw [← hW8]; exact heap_alloc_new W7 _
    have hh7 : W7.heap[W6.heap.size]? = some (.cells #[.int .i64 1, .int .i64 1] 24 (0, 0)) := by rw [← hW7]; exact heap_alloc_new W6 _
    have hs7 : W6.heap.size + 1 = W7.heap.size := by rw [← hW7]; simp
    rw [hW7, hW8]
    rw [hW7] at hB7
    have hg68 := (hg7.trans hg8).below
    have hO8 := ((Rd.of_own hO5.out).below' hb6 (Nat.le_refl _)).more hb6.size
    have hsa := sameSt_any [st 1 1, st 3 1] [st 1 1, st 3 1] Av (some ⟨W7.heap.size, 0, none⟩) 2 cv 2 2 W8.heap.size W8 ((hO8.below' hg68 (Nat.le_refl _)).more hg68.size) (rd_new (n := 2) (K := 2) hh8 rfl (by unfold maxLen; omega))
    rw [decide_eq_true rfl] at hsa
    have HSA := Lib.hid hsa
    have hB8 := hB7.trans (hg8.below.mono hB7.size)
    clear hW7 hW8 hsa a0 a1 p0 p1 c0 c1
    rw [hs7]
    refine HSA.out.mono ?_
    rintro e W9 ⟨rfl, hg9⟩
    have hB9 := hB8.trans (hg9.below.mono hB8.size)
    obtain ⟨a0, a1, p0, p1, c0, c1⟩ := HS.out W9 hB9
    have hx9 := (hg9.below.block _ (by have := hg8.below.size; omega)).trans ((hg8.below.block _ (by omega)).trans hh7)
    have x0 : W9.cell? ⟨W6.heap.size, 0, none⟩ = some (.int .i64 1) := cell_of_row _ _ 0 _ _ _ hx9
    have x1 : W9.cell? ⟨W6.heap.size, 1, none⟩ = some (.int .i64 1) := cell_of_row _ _ 1 _ _ _ hx9
    clear hx9 hh7 hs7
    have hF := HG0.out.below.trans (hB9.mono HG0.out.below.size)
    go_wp2
    go_ret
    exact ⟨rfl, hF⟩
  · obtain ⟨W1, hW1⟩ : ∃ W, w0.alloc (.cells #[.int .i64 0, .int .i64 0, .int .i64 1, .int .i64 1, .int .i64 2, .int .i64 1] 24) = W := ⟨_, rfl⟩
    obtain ⟨W4, hW4⟩ : ∃ W, (W1.alloc (.cells #[.int .i64 1, .int .i64 1, .int .i64 2, .int .i64 1, .int .i64 3, .int .i64 1] 24)).drew = W := ⟨_, rfl⟩
    have hh1 : W1.heap[w0.heap.size]? = some (.cells (eUndo.flatMap stC).toArray 24 (0, 0)) := by rw [← hW1]; exact heap_alloc_new w0 _
    have hg1 : Grows w0 W1 := by rw [← hW1]; exact (Grows.refl w0).alloc _
    have hs1 : W1.heap.size = w0.heap.size + 1 := by rw [← hW1]; simp
    have hh2 : W4.heap[w0.heap.size + 1]? = some (.cells (eNames.flatMap stC).toArray 24 (0, 0)) := by
      rw [← hW4]
      have := heap_alloc_new W1 (.cells #[.int .i64 1, .int .i64 1, .int .i64 2, .int .i64 1, .int .i64 3, .int .i64 1] 24)
      rwa [hs1] at this
    have hg4 : Grows W1 W4 := by rw [← hW4]; exact ((Grows.refl W1).alloc _).drewN 1
    have hh1' := (hg4.below.block _ (Array.getElem?_eq_some_iff.1 hh1).1).trans hh1
    rw [hW1, hW4]
    obtain ⟨b1, hb1⟩ : ∃ k, w0.heap.size = k := ⟨_, rfl⟩
    obtain ⟨b2, hb2⟩ : ∃ k, w0.heap.size + 1 = k := ⟨_, rfl⟩
    rw [hb2] at hh2 ⊢
    rw [hb1] at hh1' ⊢
    have hG := HG0.out.trans (hg1.trans hg4)
    have hR1 := rd_new (n := 3) (K := 2) hh2 rfl (by unfold maxLen; omega)
    have hR2 := rd_new (n := 3) (K := 2) hh1' rfl (by unfold maxLen; omega)
    have HSZ4 := (hg1.trans hg4).below
    clear hW1 hW4 hh1 hg1 hs1 hh2 hg4 hh1' hb1 hb2 k1
    go_wp2_with fail
    refine (on_any eNames eUndo _ _ 3 3 3 3 W4.heap.size W4 hR1 hR2 (Nat.le_refl _) (by omega)).mono ?_
    rintro e W5 ⟨v, L, rfl, hO, hL, _, hb5⟩
    obtain rfl := eOn hL
    have hO5 := Lib.hid hO
    obtain ⟨Av, cv, rfl, _, _⟩ := (Rd.of_own hO).form
    have hB5 := HSZ4.trans (hb5.mono HSZ4.size)
    obtain ⟨a0, a1, p0, p1, c0, c1⟩ := HS.out W5 hB5
    have hR5 := Lib.hid (hR1.below' hb5 (Nat.le_refl _))
    have hR6 := Lib.hid (hR2.below' hb5 (Nat.le_refl _))
    clear hO hL hR1 hR2
    go_wp2_with fail
    refine (root_any eNames eUndo (st 3 1) _ _ 3 3 3 3 W4.heap.size W5 hR5.out hR6.out hb5.size (by omega)).mono ?_
    rintro e W6 ⟨he, hb6⟩
    rw [eRoot] at he
    change e = .returned (.tuple #[.agg #[.int .i64 1, .int .i64 1], .bool true, .int .i64 0]) at he
    subst he
    have hB6 := hB5.trans (hb6.mono hB5.size)
    clear a0 a1 p0 p1 c0 c1
    have hB7 := hB6.alloc hB6.size (.cells #[.int .i64 1, .int .i64 1] 24)
    obtain ⟨a0, a1, p0, p1, c0, c1⟩ := HS.out (W6.alloc (.cells #[.int .i64 1, .int .i64 1] 24)) hB7
    have hq := eql24
    have hgd := gd24
    have hEq : eq2 1 1 1 1 = true := by decide
    go_wp2_with fail
    obtain ⟨W7, hW7⟩ : ∃ W, W6.alloc (.cells #[.int .i64 1, .int .i64 1] 24) = W := ⟨_, rfl⟩
    obtain ⟨W8, hW8⟩ : ∃ W, W7.alloc (.cells #[.int .i64 1, .int .i64 1, .int .i64 3, .int .i64 1] 24) = W := ⟨_, rfl⟩
    have hg7 : Grows W6 W7 := by rw [← hW7]; exact (Grows.refl W6).alloc _
    have hg8 : Grows W7 W8 := by rw [← hW8]; exact (Grows.refl W7).alloc _
    have hh8 : W8.heap[W7.heap.size]? = some (.cells ([st 1 1, st 3 1].flatMap stC).toArray 24 (0, 0)) := by rw [← hW8]; exact heap_alloc_new W7 _
    have hh7 : W7.heap[W6.heap.size]? = some (.cells #[.int .i64 1, .int .i64 1] 24 (0, 0)) := by rw [← hW7]; exact heap_alloc_new W6 _
    have hs7 : W6.heap.size + 1 = W7.heap.size := by rw [← hW7]; simp
    rw [hW7, hW8]
    rw [hW7] at hB7
    have hg68 := (hg7.trans hg8).below
    have hO8 := ((Rd.of_own hO5.out).below' hb6 (Nat.le_refl _)).more hb6.size
    have hsa := sameSt_any [st 1 1, st 3 1] [st 1 1, st 3 1] Av (some ⟨W7.heap.size, 0, none⟩) 2 cv 2 2 W8.heap.size W8 ((hO8.below' hg68 (Nat.le_refl _)).more hg68.size) (rd_new (n := 2) (K := 2) hh8 rfl (by unfold maxLen; omega))
    rw [decide_eq_true rfl] at hsa
    have HSA := Lib.hid hsa
    have hB8 := hB7.trans (hg8.below.mono hB7.size)
    clear hW7 hW8 hsa a0 a1 p0 p1 c0 c1
    rw [hs7]
    refine HSA.out.mono ?_
    rintro e W9 ⟨rfl, hg9⟩
    have hB9 := hB8.trans (hg9.below.mono hB8.size)
    obtain ⟨a0, a1, p0, p1, c0, c1⟩ := HS.out W9 hB9
    have hx9 := (hg9.below.block _ (by have := hg8.below.size; omega)).trans ((hg8.below.block _ (by omega)).trans hh7)
    have x0 : W9.cell? ⟨W6.heap.size, 0, none⟩ = some (.int .i64 1) := cell_of_row _ _ 0 _ _ _ hx9
    have x1 : W9.cell? ⟨W6.heap.size, 1, none⟩ = some (.int .i64 1) := cell_of_row _ _ 1 _ _ _ hx9
    clear hx9 hh7 hs7
    have hF := HG0.out.below.trans (hB9.mono HG0.out.below.size)
    go_wp2
    go_ret
    exact ⟨rfl, hF⟩
end Go.Proofs.Ytejafcdlkpmemaa
