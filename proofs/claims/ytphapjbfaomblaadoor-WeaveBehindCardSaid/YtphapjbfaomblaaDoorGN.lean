/- The law's awake, walked. -/
import Derived.Test.YtphapjbfaomblaaDoorGL
namespace Go.Proofs.YtphapjbfaomblaaDoor
open Go Go.RowKit
set_option maxRecDepth 100000 in
set_option maxHeartbeats 4000000 in
theorem awake_any (w : World) (hT : Tabs w) : Calls Tryd.prog 11 #[] w fun e w' => e = .returned (.bool true) ∧ Below w.heap.size w w' := by
  have HT := Lib.hid (fun W (hW : Below w.heap.size w W) => hT.below hW)
  clear hT
  have g0 : Grows w w := Grows.refl w
  go_enter Tryd.func11, Tryd.ntmps11
  go_wp2_with fail
  refine (id3_at _ _ _ _).mono ?_
  rintro e w1 ⟨rfl, h1⟩
  have g1 := g0.trans h1
  clear h1
  go_wp2_with fail
  refine (id3_at _ _ _ _).mono ?_
  rintro e w2 ⟨rfl, h2⟩
  have g2 := g1.trans h2
  clear h2
  go_wp2_with fail
  refine (id3_at _ _ _ _).mono ?_
  rintro e w3 ⟨rfl, h3⟩
  have g3 := g2.trans h3
  clear h3
  go_wp2_with fail
  refine (id3_at _ _ _ _).mono ?_
  rintro e w4 ⟨rfl, h4⟩
  have g4 := g3.trans h4
  clear h4
  go_wp2_with fail
  refine (id3_at _ _ _ _).mono ?_
  rintro e w5 ⟨rfl, h5⟩
  have g5 := g4.trans h5
  clear h5
  have hb5 : Below w.heap.size w w5 := g5.below
  obtain ⟨w6, hw6⟩ : ∃ W, w5.alloc (.cells (aR.flatMap rnC).toArray 28) = W := ⟨_, rfl⟩
  have hh6 : w6.heap[w5.heap.size]? = some (.cells (aR.flatMap rnC).toArray 28 (0, 0)) := by rw [← hw6]; exact heap_alloc_new w5 _
  have hb6 : Below w.heap.size w w6 := by rw [← hw6]; exact hb5.alloc hb5.size _
  have HRn := Lib.hid (rd_new (n := 3) (K := 7) hh6 rfl (by unfold maxLen; omega))
  have HB6 := Lib.hid hb6
  have HW6 := Lib.hid hw6
  have hfl : (flat aR).length ≤ 100000 := by rw [aFlat]; decide
  have htx : ∀ r ∈ aR, r.tx.size ≤ 100000 := by intro r hr; simp only [aR, List.mem_cons, List.mem_nil_iff, or_false] at hr; rcases hr with rfl | rfl | rfl <;> decide
  have HOr := Lib.hid (order_any aR _ 3 3 w6.heap.size w6 HRn.out (Nat.le_refl _) (HT.out w6 hb6) hfl htx)
  have HFL := Lib.hid hfl
  have HTX := Lib.hid htx
  clear hw6 hh6 hb6 hb5 g0 g1 g2 g3 g4 g5 hfl htx
  go_wp2_with fail
  rw [show w5.alloc (.cells #[.int .i64 0, .int .i64 0, .int .i64 0, .int .i64 1, .int .i64 1, .int .i64 0, .string { data := #[97, 98] }, .int .i64 1, .int .i64 1, .int .i64 0, .int .i64 2, .int .i64 2, .int .i64 0, .string { data := #[88] }, .int .i64 1, .int .i64 1, .int .i64 0, .int .i64 3, .int .i64 1, .int .i64 0, .string { data := #[89] }] 28) = w6 from HW6.out]
  refine HOr.out.mono ?_
  rintro e w7 ⟨O, v, hO, rfl, hv, _, hb7⟩
  obtain rfl := aIs hO
  have hl : aO.length = 4 := rfl
  rw [hl] at hv
  rw [aText]
  obtain ⟨Av, cv, rfl, _, _⟩ := (Rd.of_own hv).form
  have HB7 := Lib.hid (HB6.out.trans (hb7.mono HB6.out.size))
  have HR7 := Lib.hid (fun W (hW : Below w7.heap.size w7 W) => (HRn.out.below' (hb7.trans (hW.mono hb7.size)) (Nat.le_refl _)))
  have HS7 := Lib.hid hb7.size
  clear hO hv hb7 hl HOr HRn HW6
  go_wp2_with fail
  refine (id3_at _ _ _ _).mono ?_
  rintro e w8 ⟨rfl, h8⟩
  have hs7 : (w7.alloc (.cells (aOn.flatMap stC).toArray 24)).heap[w7.heap.size]? = some (.cells (aOn.flatMap stC).toArray 24 (0, 0)) := heap_alloc_new w7 _
  have hs8 : w8.heap[w7.heap.size]? = some (.cells (aOn.flatMap stC).toArray 24 (0, 0)) := (h8.below.block _ (by simp)).trans hs7
  have hb8 : Below w7.heap.size w7 w8 := ((Below.refl _ w7).alloc (Nat.le_refl _) _).trans (h8.below.mono (by simp))
  obtain ⟨w9, hw9⟩ : ∃ W, w8.alloc (.cells (aGone.flatMap idC).toArray 26) = W := ⟨_, rfl⟩
  have hh9 : w9.heap[w8.heap.size]? = some (.cells (aGone.flatMap idC).toArray 26 (0, 0)) := by rw [← hw9]; exact heap_alloc_new w8 _
  have hs9 : w9.heap[w7.heap.size]? = some (.cells (aOn.flatMap stC).toArray 24 (0, 0)) := by rw [← hw9]; exact (Below.heap_alloc _ _ _ (Array.getElem?_eq_some_iff.1 hs8).1).trans hs8
  have hb9 : Below w7.heap.size w7 w9 := by rw [← hw9]; exact hb8.alloc hb8.size _
  have HSe := Lib.hid (seen_any aR aOn aGone _ _ _ 3 3 2 2 1 1 w9.heap.size w9 ((HR7.out w9 hb9).more (Nat.le_trans HS7.out hb9.size)) (rd_new (n := 2) (K := 2) hs9 rfl (by unfold maxLen; omega)) (rd_new (n := 1) (K := 3) hh9 rfl (by unfold maxLen; omega)) (Nat.le_refl _) (HT.out w9 (HB7.out.trans (hb9.mono HB7.out.size))) HFL.out HTX.out (by decide) (by decide))
  have HB9 := Lib.hid (HB7.out.trans (hb9.mono HB7.out.size))
  have HW9 := Lib.hid hw9
  clear hs7 hs8 hb8 hh9 hs9 hb9 h8 hw9
  go_wp2_with fail
  rw [show w8.alloc (.cells #[.int .i64 1, .int .i64 1, .int .i64 1] 26) = w9 from HW9.out]
  refine HSe.out.mono ?_
  rintro e w10 ⟨O, v, hO, rfl, hv, _, hb10⟩
  obtain rfl := aIs hO
  rw [aSeen] at hv ⊢
  rw [aText2]
  have hl : [eA, eX].length = 2 := rfl
  rw [hl] at hv
  obtain ⟨Aw, cw, rfl, _, _⟩ := (Rd.of_own hv).form
  have HBf := Lib.hid (HB9.out.trans (hb10.mono HB9.out.size))
  clear hO hv hb10 hl HSe HW9
  go_wp2
  go_ret
  exact ⟨rfl, HBf.out⟩
end Go.Proofs.YtphapjbfaomblaaDoor
