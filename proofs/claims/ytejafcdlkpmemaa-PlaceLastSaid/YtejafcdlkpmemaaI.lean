/- awake, and the law of the nodes. -/
import Derived.Test.YtejafcdlkpmemaaH
import Derived.Deep.RegionHeld3
namespace Go.Proofs.Ytejafcdlkpmemaa
open Go Go.RowKit Go.Maps Go.Shelf
theorem id_at (t : Int) (w : World) : Calls Try.prog 26 #[.int .i64 t] w fun e w' => e = .returned (.agg #[.int .i64 t, .int .i64 1, .int .i64 0]) ∧ Grows w w' := by
  go_enter Try.func26, Try.ntmps26
  go_wp2
  refine bodyPost_ret (results_cell_row rfl _ _ w.heap.size 26 #[.int .i64 t, .int .i64 1, .int .i64 0] (0, 0) _ rfl (heap_alloc_new w _) Try.underlying26 rfl (by kernel_rfl)) rfl ⟨rfl, (Grows.refl w).alloc _⟩
def st (t r : Int) (ht : I64 t := by decide) (hr : I64 r := by decide) : Stamp := ⟨t, r, ht, hr⟩
def nid (t : Int) (ht : I64 t := by decide) : Id := ⟨⟨t, 1, ht, by decide⟩, 0, by decide⟩
def aHave : List Dot := [⟨nid 1, st 1 1⟩, ⟨nid 1, st 2 1⟩, ⟨nid 3, st 3 1⟩]
def aGone : List Dot := [⟨nid 1, st 1 1⟩, ⟨nid 3, st 3 1⟩]
theorem aLive (y : Id) : liveMem aHave aGone aHave.length y ↔ y ∈ [nid 1] := by
  unfold liveMem
  rw [List.take_length]
  constructor
  · rintro ⟨d, hd, h1, rfl⟩
    simp only [aHave, List.mem_cons, List.mem_nil_iff, or_false] at hd
    rcases hd with rfl | rfl | rfl
    · exact absurd (by simp [aGone]) h1
    · simp
    · exact absurd (by simp [aGone]) h1
  · intro h
    simp only [List.mem_singleton] at h
    subst h
    exact ⟨⟨nid 1, st 2 1⟩, by simp [aHave], by decide, rfl⟩
theorem aOf (y : Stamp) : ofMem aHave aGone (nid 1) aHave.length y ↔ y ∈ [st 2 1] := by
  unfold ofMem
  rw [List.take_length]
  constructor
  · rintro ⟨d, hd, h0, h1, rfl⟩
    simp only [aHave, List.mem_cons, List.mem_nil_iff, or_false] at hd
    rcases hd with rfl | rfl | rfl
    · exact absurd (by simp [aGone]) h1
    · simp
    · exact absurd (by simp [aGone]) h1
  · intro h
    simp only [List.mem_singleton] at h
    subst h
    exact ⟨⟨nid 1, st 2 1⟩, by simp [aHave], rfl, by decide, rfl⟩
theorem live_eq {have_ gone : List Dot} {L M : List Id} (h1 : L.Pairwise Id.Lt) (h2 : M.Pairwise Id.Lt) (m1 : ∀ y, y ∈ L ↔ liveMem have_ gone have_.length y) (m2 : ∀ y, y ∈ M ↔ liveMem have_ gone have_.length y) : L = M :=
  sorted_unique idSTO h1 h2 (fun y => (m1 y).trans (m2 y).symm)
theorem of_eq {have_ gone : List Dot} {x : Id} {L M : List Stamp} (h1 : L.Pairwise Stamp.Lt) (h2 : M.Pairwise Stamp.Lt) (m1 : ∀ y, y ∈ L ↔ ofMem have_ gone x have_.length y) (m2 : ∀ y, y ∈ M ↔ ofMem have_ gone x have_.length y) : L = M :=
  sorted_unique stampSTO h1 h2 (fun y => (m1 y).trans (m2 y).symm)
theorem rd_new {w : World} {b n : Nat} {e : TypeId} {K : Nat} {xs : List Value} (h : w.heap[b]? = some (.cells xs.toArray e (0, 0))) (hl : xs.length = n * K) (hn : n ≤ maxLen) : Rd w w.heap.size K (.slice (some ⟨b, 0, none⟩) n n) n xs :=
  Rd.of_own (own_mk (base := 0) (R := []) hl (Nat.zero_le _) (Nat.le_refl _) hn (by simpa using h) (by simpa using hl))
theorem below_more {B B' : Nat} {a w : World} (h : Below B a w) (hb : B' ≤ B) : Below B' a w := h.mono hb
set_option maxRecDepth 100000 in
set_option maxHeartbeats 2000000 in
theorem awake_any (w : World) : Calls Try.prog 18 #[] w fun e w' => e = .returned (.bool true) ∧ Below w.heap.size w w' := by
  go_enter Try.func18, Try.ntmps18
  go_wp2_with fail
  refine (id_at 1 _).mono ?_
  rintro e w1 ⟨rfl, hg1⟩
  go_wp2_with fail
  refine (id_at 1 _).mono ?_
  rintro e w2 ⟨rfl, hg2⟩
  go_wp2_with fail
  refine (id_at 3 _).mono ?_
  rintro e w3 ⟨rfl, hg3⟩
  have hG := hg1.trans (hg2.trans hg3)
  clear hg1 hg2 hg3
  go_wp2_with fail
  go_region
  obtain ⟨W3, hW3⟩ : ∃ W, w3.alloc (.cells #[.int .i64 1, .int .i64 1, .int .i64 0, .int .i64 1, .int .i64 1, .int .i64 1, .int .i64 1, .int .i64 0, .int .i64 2, .int .i64 1, .int .i64 3, .int .i64 1, .int .i64 0, .int .i64 3, .int .i64 1] 41) = W := ⟨_, rfl⟩
  obtain ⟨W4, hW4⟩ : ∃ W, (W3.alloc (.cells #[.int .i64 1, .int .i64 1, .int .i64 0, .int .i64 1, .int .i64 1, .int .i64 3, .int .i64 1, .int .i64 0, .int .i64 3, .int .i64 1] 41)).drew = W := ⟨_, rfl⟩
  have hG3 : Grows w W3 := by rw [← hW3]; exact hG.alloc _
  have hh3 : W3.heap[w3.heap.size]? = some (.cells (aHave.flatMap dotC).toArray 41 (0, 0)) := by rw [← hW3]; exact heap_alloc_new w3 _
  have hG34 : Grows W3 W4 := by rw [← hW4]; exact ((Grows.refl W3).alloc _).drewN 1
  have hh4 : W4.heap[w3.heap.size + 1]? = some (.cells (aGone.flatMap dotC).toArray 41 (0, 0)) := by
    rw [← hW4]
    have h := heap_alloc_new W3 (.cells #[.int .i64 1, .int .i64 1, .int .i64 0, .int .i64 1, .int .i64 1, .int .i64 3, .int .i64 1, .int .i64 0, .int .i64 3, .int .i64 1] 41)
    rw [← hW3, World.size_alloc, hW3] at h
    exact h
  have hr1 := Lib.hid (((rd_new (n := 3) (K := 5) hh3 rfl (by unfold maxLen; omega)).below' hG34.below (Nat.le_refl _)).more hG34.below.size)
  have hr2 := Lib.hid (rd_new (n := 2) (K := 5) hh4 rfl (by unfold maxLen; omega))
  have hb4 : Below w.heap.size w W4 := (hG3.trans hG34).below
  rw [hW3, hW4]
  obtain ⟨b1, hb1⟩ : ∃ b, w3.heap.size = b := ⟨_, rfl⟩
  rw [hb1] at hr1 hr2 ⊢
  clear hW3 hW4 hG3 hG34 hh3 hh4 hb1 hG
  go_wp2_with fail
  refine (live_any aHave aGone _ _ 3 3 2 2 W4.heap.size W4 hr1.out hr2.out (Nat.le_refl _) (by omega)).mono ?_
  rintro e W5 ⟨v, L, rfl, hO, hS, hM, hb5⟩
  obtain rfl : L = [nid 1] := sorted_unique idSTO hS (by simp) (fun y => (hM y).trans (aLive y))
  have hO5 := Lib.hid hO
  obtain ⟨Av, cv, rfl, _, _⟩ := (Rd.of_own hO).form
  clear hO hS hM
  go_wp2_with fail
  refine (id_at 1 _).mono ?_
  rintro e W6 ⟨rfl, hg6⟩
  go_wp2_with fail
  obtain ⟨W7, hW7⟩ : ∃ W, W6.alloc (.cells #[.int .i64 1, .int .i64 1, .int .i64 0] 26) = W := ⟨_, rfl⟩
  have hg7 : Grows W5 W7 := by rw [← hW7]; exact hg6.alloc _
  have hh7 : W7.heap[W6.heap.size]? = some (.cells ([nid 1].flatMap idC).toArray 26 (0, 0)) := by rw [← hW7]; exact heap_alloc_new W6 _
  have hsa := sameId_any [nid 1] [nid 1] Av (some ⟨W6.heap.size, 0, none⟩) 1 cv 1 1 W7.heap.size W7 ((((Rd.of_own hO5.out).below' hg7.below (Nat.le_refl _))).more hg7.below.size) (rd_new (n := 1) (K := 3) hh7 rfl (by unfold maxLen; omega))
  rw [decide_eq_true rfl] at hsa
  rw [hW7]
  refine hsa.mono ?_
  rintro e W8 ⟨rfl, hg8⟩
  have hb8 : Below W4.heap.size W4 W8 := hb5.trans ((hg7.trans hg8).below.mono hb5.size)
  clear hsa hh7 hW7 hg6 hg7 hg8 hO5 hb5
  go_wp2_with fail
  refine (id_at 1 _).mono ?_
  rintro e W9 ⟨rfl, hg9⟩
  have hb9 : Below W4.heap.size W4 W9 := hb8.trans (hg9.below.mono hb8.size)
  clear hb8 hg9
  go_wp2_with fail
  refine (of_any aHave aGone (nid 1) _ _ 3 3 2 2 W4.heap.size W9 (hr1.out.below hb9) (hr2.out.below hb9) hb9.size (by omega)).mono ?_
  rintro e W10 ⟨v, L, rfl, hO, hS, hM, hb10⟩
  obtain rfl : L = [st 2 1] := sorted_unique stampSTO hS (by simp) (fun y => (hM y).trans (aOf y))
  have hO10 := Lib.hid hO
  obtain ⟨Ax, cx, rfl, _, _⟩ := (Rd.of_own hO).form
  have hb11 : Below w.heap.size w W10 := hb4.trans ((hb9.trans (hb10.mono hb9.size)).mono hb4.size)
  clear hO hS hM hb9 hb10 hb4
  go_wp2_with fail
  obtain ⟨W11, hW11⟩ : ∃ W, W10.alloc (.cells #[.int .i64 2, .int .i64 1] 24) = W := ⟨_, rfl⟩
  have hg11 : Grows W10 W11 := by rw [← hW11]; exact (Grows.refl _).alloc _
  have hh11 : W11.heap[W10.heap.size]? = some (.cells ([st 2 1].flatMap stC).toArray 24 (0, 0)) := by rw [← hW11]; exact heap_alloc_new W10 _
  have hsa := sameSt_any [st 2 1] [st 2 1] Ax (some ⟨W10.heap.size, 0, none⟩) 1 cx 1 1 W11.heap.size W11 ((((Rd.of_own hO10.out).below' hg11.below (Nat.le_refl _))).more hg11.below.size) (rd_new (n := 1) (K := 2) hh11 rfl (by unfold maxLen; omega))
  rw [decide_eq_true rfl] at hsa
  rw [hW11]
  refine hsa.mono ?_
  rintro e W12 ⟨rfl, hg12⟩
  have hb12 : Below w.heap.size w W12 := hb11.trans ((hg11.trans hg12).below.mono hb11.size)
  clear hsa hh11 hW11 hg11 hg12 hO10 hb11
  go_wp2
  go_ret
  exact ⟨rfl, hb12⟩
end Go.Proofs.Ytejafcdlkpmemaa
