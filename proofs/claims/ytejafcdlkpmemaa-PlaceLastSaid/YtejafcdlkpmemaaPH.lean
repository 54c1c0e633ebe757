/- place's awake. -/
import Derived.Test.YtejafcdlkpmemaaPD
import Derived.Test.YtejafcdlkpmemaaPF
import Derived.Test.YtejafcdlkpmemaaPG
import Derived.Test.YtejafcdlkpmemaaI
namespace Go.Proofs.Ytejafcdlkpmemaa
open Go Go.RowKit Go.Maps Go.Shelf
theorem id2_at (t r : Int) (w : World) : Calls Try.prog 44 #[.int .i64 t, .int .i64 r] w fun e w' => e = .returned (.agg #[.int .i64 t, .int .i64 r, .int .i64 0]) ∧ Grows w w' := by
  go_enter Try.func44, Try.ntmps44
  go_wp2
  refine bodyPost_ret (results_cell_row rfl _ _ w.heap.size 26 #[.int .i64 t, .int .i64 r, .int .i64 0] (0, 0) _ rfl (heap_alloc_new w _) Try.underlying26 rfl (by kernel_rfl)) rfl ⟨rfl, (Grows.refl w).alloc _⟩
theorem toldOf_self {l : List Told} (h : l.Pairwise (fun x y => x.at_.Lt y.at_)) : ToldOf l l := by
  have u : UnlikeK Told.at_ l := h.imp fun {a b} hab e => by rw [e] at hab; exact idSTO.irrefl _ hab
  exact ⟨h, fun x => (u.first x).symm⟩
def pAt : List Id := [nid 1, nid 2, nid 3, ⟨st 3 2, 0, by decide⟩, nid 4]
def sA : ByteArray := ⟨#[97]⟩
def sB : ByteArray := ⟨#[98]⟩
def pL : List Place := [⟨nid 1, zeroI, sA, true⟩, ⟨nid 2, nid 1, sB, true⟩, ⟨nid 1, nid 2, sA, false⟩, ⟨nid 2, zeroI, sB, false⟩, ⟨nid 1, nid 2, sA, false⟩]
def pEnd : List Place := [⟨nid 1, nid 2, sA, true⟩, ⟨nid 2, zeroI, sB, true⟩]
theorem pTold {T : List Told} (h : ToldOf (zipT pAt pL) T) : replayL T = pEnd := by
  have e : T = zipT pAt pL := toldOf_same h (toldOf_self (by simp [zipT, pAt, pL, Id.Lt, Stamp.Lt, nid, st]))
  rw [e]
  rfl
theorem pWi1 : withinGo pEnd (pEnd.length + 1) (nid 1) (nid 2) = true := by rfl
theorem pWi2 : withinGo pEnd (pEnd.length + 1) (nid 2) (nid 1) = false := by rfl
set_option maxRecDepth 100000 in
set_option maxHeartbeats 4000000 in
theorem pawake_any (w : World) : Calls Try.prog 37 #[] w fun e w' => e = .returned (.bool true) ∧ Below w.heap.size w w' := by
  go_enter Try.func37, Try.ntmps37
  go_wp2_with fail
  refine (id2_at 1 1 _).mono ?_
  rintro e w1 ⟨rfl, hg1⟩
  go_wp2_with fail
  refine (id2_at 2 1 _).mono ?_
  rintro e w2 ⟨rfl, hg2⟩
  have hg12 := hg1.trans hg2
  go_wp2
  obtain ⟨w0, hw0⟩ : ∃ W, (w2.alloc (.cells #[.int .i64 1, .int .i64 1, .int .i64 0] 26)).alloc (.cells #[.int .i64 2, .int .i64 1, .int .i64 0] 26) = W := ⟨_, rfl⟩
  have hg0 : Grows w2 w0 := by rw [← hw0]; exact ((Grows.refl w2).alloc _).alloc _
  have hs0 : w0.heap.size = w2.heap.size + 2 := by rw [← hw0]; simp
  have hA : w0.heap[w2.heap.size]? = some (.cells #[.int .i64 1, .int .i64 1, .int .i64 0] 26 (0, 0)) := by
    rw [← hw0]
    exact (((Grows.refl (w2.alloc (.cells #[.int .i64 1, .int .i64 1, .int .i64 0] 26))).alloc _).below.block w2.heap.size (by simp)).trans (heap_alloc_new w2 _)
  have hBb : w0.heap[w2.heap.size + 1]? = some (.cells #[.int .i64 2, .int .i64 1, .int .i64 0] 26 (0, 0)) := by
    rw [← hw0]
    have := heap_alloc_new (w2.alloc (.cells #[.int .i64 1, .int .i64 1, .int .i64 0] 26)) (.cells #[.int .i64 2, .int .i64 1, .int .i64 0] 26)
    rwa [World.size_alloc] at this
  rw [hw0]
  obtain ⟨ba, hba⟩ : ∃ k, w2.heap.size = k := ⟨_, rfl⟩
  obtain ⟨bb, hbb⟩ : ∃ k, w2.heap.size + 1 = k := ⟨_, rfl⟩
  rw [hbb] at hBb ⊢
  rw [hba] at hA ⊢
  have hla := (Array.getElem?_eq_some_iff.1 hA).1
  have hlb := (Array.getElem?_eq_some_iff.1 hBb).1
  have HS := Lib.hid (fun W' (hW : Below w0.heap.size w0 W') => (show W'.cell? ⟨ba, 0, none⟩ = some (.int .i64 1) ∧ W'.cell? ⟨ba, 1, none⟩ = some (.int .i64 1) ∧ W'.cell? ⟨ba, 2, none⟩ = some (.int .i64 0) ∧ W'.cell? ⟨bb, 0, none⟩ = some (.int .i64 2) ∧ W'.cell? ⟨bb, 1, none⟩ = some (.int .i64 1) ∧ W'.cell? ⟨bb, 2, none⟩ = some (.int .i64 0) from
    ⟨(hW.cell (p := ⟨ba, 0, none⟩) hla).trans (cell_of_row _ _ 0 _ _ _ hA), (hW.cell (p := ⟨ba, 1, none⟩) hla).trans (cell_of_row _ _ 1 _ _ _ hA), (hW.cell (p := ⟨ba, 2, none⟩) hla).trans (cell_of_row _ _ 2 _ _ _ hA), (hW.cell (p := ⟨bb, 0, none⟩) hlb).trans (cell_of_row _ _ 0 _ _ _ hBb), (hW.cell (p := ⟨bb, 1, none⟩) hlb).trans (cell_of_row _ _ 1 _ _ _ hBb), (hW.cell (p := ⟨bb, 2, none⟩) hlb).trans (cell_of_row _ _ 2 _ _ _ hBb)⟩))
  have HG0 := Lib.hid (hg12.trans hg0)
  clear hw0 hg0 hs0 hA hBb hba hbb hg1 hg2 hg12
  have k1 : Below w0.heap.size w0 w0.drew := (Below.refl _ w0).drew
  have I1 := Lib.hid (fun W => id2_at 3 1 W)
  have I2 := Lib.hid (fun W => id2_at 3 2 W)
  have I3 := Lib.hid (fun W => id2_at 4 1 W)
  go_region_held3 (fun w' => w'.cell? ⟨ba, 0, none⟩ = some (.int .i64 1) ∧ w'.cell? ⟨ba, 1, none⟩ = some (.int .i64 1) ∧ w'.cell? ⟨ba, 2, none⟩ = some (.int .i64 0) ∧ w'.cell? ⟨bb, 0, none⟩ = some (.int .i64 2) ∧ w'.cell? ⟨bb, 1, none⟩ = some (.int .i64 1) ∧ w'.cell? ⟨bb, 2, none⟩ = some (.int .i64 0))
    (first | exact HS.out _ (by assumption) | go_keep)
    (first
      | (go_at_call 44; (with_reducible refine (I1.out _).mono ?_); rintro e w3 ⟨rfl, hg3⟩; have k2 := k1.trans (hg3.below.mono k1.size); clear hg3)
      | (go_at_call 44; (with_reducible refine (I2.out _).mono ?_); rintro e w4 ⟨rfl, hg4⟩; have k3 := k2.trans (hg4.below.mono k2.size); clear hg4)
      | (go_at_call 44; (with_reducible refine (I3.out _).mono ?_); rintro e w5 ⟨rfl, hg5⟩; have k4 := k3.trans (hg5.below.mono k3.size); clear hg5))
  clear I1 I2 I3 k1 k2 k3
  obtain ⟨W1, hW1⟩ : ∃ W, w5.alloc (.cells (pAt.flatMap idC).toArray 26) = W := ⟨_, rfl⟩
  have hh1 : W1.heap[w5.heap.size]? = some (.cells (pAt.flatMap idC).toArray 26 (0, 0)) := by rw [← hW1]; exact heap_alloc_new w5 _
  have hB1 : Below w0.heap.size w0 W1 := by rw [← hW1]; exact k4.alloc k4.size _
  have hs1 : W1.heap.size = w5.heap.size + 1 := by rw [← hW1]; simp
  have hW1' := hW1
  simp only [pAt, idC, List.flatMap_cons, List.flatMap_nil, List.cons_append, List.nil_append, nid, st] at hW1'
  rw [hW1']
  obtain ⟨b1, hb1⟩ : ∃ k, w5.heap.size = k := ⟨_, rfl⟩
  rw [hb1] at hh1 ⊢
  obtain ⟨a0, a1, a2, p0, p1, p2⟩ := HS.out W1 hB1
  have HB1 := Lib.hid hB1
  have HH1 := Lib.hid hh1
  clear hW1 hW1' hb1 hh1 hs1 k4
  go_wp2_with fail
  obtain ⟨W2, hW2⟩ : ∃ W, W1.alloc (.cells (pL.flatMap plC).toArray 71) = W := ⟨_, rfl⟩
  have hh2 : W2.heap[W1.heap.size]? = some (.cells (pL.flatMap plC).toArray 71 (0, 0)) := by rw [← hW2]; exact heap_alloc_new W1 _
  have hg2 : Grows W1 W2 := by rw [← hW2]; exact (Grows.refl W1).alloc _
  have hW2' := hW2
  simp only [pL, plC, List.flatMap_cons, List.flatMap_nil, List.cons_append, List.nil_append, nid, zeroI, sA, sB] at hW2'
  rw [hW2']
  have hh1' := (hg2.below.block _ (Array.getElem?_eq_some_iff.1 HH1.out).1).trans HH1.out
  have hB2 := hB1.trans (hg2.below.mono hB1.size)
  have hR1 := rd_new (n := 5) (K := 3) hh1' rfl (by unfold maxLen; omega)
  have hR2 := rd_new (n := 5) (K := 8) hh2 rfl (by unfold maxLen; omega)
  clear hW2 hW2' hh1' hh2 hg2 a0 a1 a2 p0 p1 p2
  refine (replay_any pAt pL _ _ 5 5 5 5 W2.heap.size W2 hR1 hR2 (Nat.le_refl _) (by omega)).mono ?_
  rintro e W3 ⟨v, T, rfl, hT, _, hO, hb3⟩
  rw [pTold hT] at hO
  obtain ⟨Av, cv, rfl, _, _⟩ := (Rd.of_own hO).form
  have HR3 := Lib.hid (Rd.of_own hO)
  have hB3 := hB2.trans (hb3.mono hB2.size)
  have HB3 := Lib.hid hB3
  obtain ⟨a0, a1, a2, p0, p1, p2⟩ := HS.out W3 hB3
  clear hT hO hb3 hB2 hR1 hR2 hB1 HB1 HH1
  go_wp2_with fail
  obtain ⟨W4, hW4⟩ : ∃ W, W3.alloc (.cells (pEnd.flatMap plC).toArray 71) = W := ⟨_, rfl⟩
  have hh4 : W4.heap[W3.heap.size]? = some (.cells (pEnd.flatMap plC).toArray 71 (0, 0)) := by rw [← hW4]; exact heap_alloc_new W3 _
  have hg4 : Grows W3 W4 := by rw [← hW4]; exact (Grows.refl W3).alloc _
  simp only [pEnd, plC, List.flatMap_cons, List.flatMap_nil, List.cons_append, List.nil_append, nid, zeroI, sA, sB] at hW4
  rw [hW4]
  have hB4 := hB3.trans (hg4.below.mono hB3.size)
  have hR4 := (HR3.out.below' hg4.below (Nat.le_refl _)).more hg4.below.size
  have hsa := samePl_any pEnd pEnd Av (some ⟨W3.heap.size, 0, none⟩) 2 cv 2 2 W4.heap.size W4 hR4 (rd_new (n := 2) (K := 8) hh4 rfl (by unfold maxLen; omega))
  rw [decide_eq_true rfl] at hsa
  have HSA := Lib.hid hsa
  have HR4 := Lib.hid hR4
  clear hW4 hsa hh4 hR4 hg4 a0 a1 a2 p0 p1 p2 hB3
  refine HSA.out.mono ?_
  rintro e W5 ⟨rfl, hg5⟩
  have hB5 := hB4.trans (hg5.below.mono hB4.size)
  have HR5 := Lib.hid ((HR4.out.below' hg5.below (Nat.le_refl _)).more hg5.below.size)
  obtain ⟨a0, a1, a2, p0, p1, p2⟩ := HS.out W5 hB5
  clear hB4 hg5 HSA HR4
  go_wp2_with fail
  refine (pwithin_any pEnd (nid 1) (nid 2) Av 2 cv W5.heap.size W5 HR5.out (Nat.le_refl _) (by omega)).mono ?_
  rintro e W6 ⟨he, hb6⟩
  rw [pWi1] at he
  subst he
  have hB6 := hB5.trans (hb6.mono hB5.size)
  have HR6 := Lib.hid ((HR5.out.below' hb6 (Nat.le_refl _)).more hb6.size)
  clear a0 a1 a2 p0 p1 p2 hB5 hb6 HR5
  obtain ⟨a0, a1, a2, p0, p1, p2⟩ := HS.out W6 hB6
  go_wp2_with fail
  refine (pwithin_any pEnd (nid 2) (nid 1) Av 2 cv W6.heap.size W6 HR6.out (Nat.le_refl _) (by omega)).mono ?_
  rintro e W7 ⟨he, hb7⟩
  rw [pWi2] at he
  subst he
  have HF := Lib.hid (hB6.trans (hb7.mono hB6.size))
  clear a0 a1 a2 p0 p1 p2 hB6 hb7 HR6
  go_wp2
  go_ret
  exact ⟨rfl, HG0.out.below.trans (HF.out.mono HG0.out.below.size)⟩
end Go.Proofs.Ytejafcdlkpmemaa
