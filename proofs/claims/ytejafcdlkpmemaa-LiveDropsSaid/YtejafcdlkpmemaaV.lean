/- The law of few nodes: LiveSmall. -/
import Derived.Test.YtejafcdlkpmemaaJ
import Derived.Test.YtejafcdlkpmemaaT
namespace Go.Proofs.Ytejafcdlkpmemaa
open Go Go.RowKit Go.Maps Go.Shelf
def smallId (x : Int) (hx : 0 ≤ x ∧ x ≤ 255) : Id := nid (1 + x % 5) (by have := hx.1; unfold I64; omega)
set_option maxRecDepth 100000 in
set_option maxHeartbeats 4000000 in
theorem small_walk (l0 l1 : List Bit) (x : Int) (A A' : Option Addr) (n c n' c' : Nat) (hx : 0 ≤ x ∧ x ≤ 255) (w : World) (hR : Rd w w.heap.size 2 (.slice A n c) n (l0.flatMap bitC)) (hR' : Rd w w.heap.size 2 (.slice A' n' c') n' (l1.flatMap bitC)) :
    Calls Try.prog 4 #[.slice A n c, .slice A' n' c', .int .u8 x] w fun e w' => e = .returned (.bool true) ∧ Below w.heap.size w w' := by
  have HR := Lib.hid hR
  have HR' := Lib.hid hR'
  obtain ⟨u, hu⟩ : ∃ u, 1 + x % 5 = u := ⟨_, rfl⟩
  have HY := Lib.hid (show idV (smallId x hx) = .agg #[.int .i64 u, .int .i64 1, .int .i64 0] from by rw [← hu]; rfl)
  obtain ⟨r, hr⟩ : ∃ r, x % 5 = r := ⟨_, rfl⟩
  rw [hr] at hu
  have m1 : Int.tmod x 5 = r := by rw [Int.tmod_eq_emod_of_nonneg hx.1, hr]
  have a1 : IntKind.i64.wrap (1 + r) = u := by rw [IntWalk.i64_in _ (by omega)]; omega
  have w1 : IntKind.i64.wrap x = x := IntWalk.i64_in _ (by omega)
  generalize smallId x hx = y at HY
  clear hR hR' hr hu
  go_enter Try.func4, Try.ntmps4
  go_wp2_with fail
  refine (dots_any l0 A n c w.heap.size w HR.out (Nat.le_refl _)).mono ?_
  rintro e W1 ⟨v1, rfl, hO1, hb1⟩
  obtain ⟨Aa, ca, rfl, _, _⟩ := (Rd.of_own hO1).form
  have ll1 : ((l0.take 60).map bitDot).length ≤ 60 := by rw [List.length_map, List.length_take]; omega
  generalize (l0.take 60).map bitDot = La at hO1 ll1 ⊢
  have HO1 := Lib.hid hO1
  clear hO1
  go_wp2_with fail
  refine (dots_any l1 A' n' c' w.heap.size W1 (HR'.out.below' hb1 (Nat.le_refl _)) hb1.size).mono ?_
  rintro e W2 ⟨v2, rfl, hO2, hb2⟩
  obtain ⟨Ab, cb, rfl, _, _⟩ := (Rd.of_own hO2).form
  have ll2 : ((l1.take 60).map bitDot).length ≤ 60 := by rw [List.length_map, List.length_take]; omega
  generalize (l1.take 60).map bitDot = Lb at hO2 ll2 ⊢
  have HO2 := Lib.hid hO2
  have hb12 : Below w.heap.size w W2 := hb1.trans (hb2.mono hb1.size)
  have HR1 := Lib.hid (((Rd.of_own HO1.out).below' hb2 (Nat.le_refl _)).more hb2.size)
  have HR2 := Lib.hid (Rd.of_own HO2.out)
  clear hO2 HO1 HO2 hb1 hb2 HR HR'
  go_wp2_with fail
  refine (id_at u _).mono ?_
  rintro e W3 ⟨rfl, hg3⟩
  have HR1b := Lib.hid ((HR1.out.below' hg3.below (Nat.le_refl _)).more hg3.below.size)
  have HR2b := Lib.hid ((HR2.out.below' hg3.below (Nat.le_refl _)).more hg3.below.size)
  have hb3 : Below w.heap.size w W3 := hb12.trans (hg3.below.mono hb12.size)
  clear HR1 HR2 hg3 hb12 m1 a1 w1
  go_wp2_with fail
  obtain ⟨wf, hwf⟩ : ∃ W, W3.alloc (.cells #[.int .i64 u, .int .i64 1, .int .i64 0] 26) = W := ⟨_, rfl⟩
  have hgf : Grows W3 wf := by rw [← hwf]; exact (Grows.refl W3).alloc _
  have hbx : wf.heap[W3.heap.size]? = some (.cells #[.int .i64 u, .int .i64 1, .int .i64 0] 26 (0, 0)) := by rw [← hwf]; exact heap_alloc_new W3 _
  have hszf : W3.heap.size < wf.heap.size := (Array.getElem?_eq_some_iff.1 hbx).1
  have HRf := Lib.hid ((HR1b.out.below' hgf.below (Nat.le_refl _)).more hgf.below.size)
  have HRf' := Lib.hid ((HR2b.out.below' hgf.below (Nat.le_refl _)).more hgf.below.size)
  have HBf := Lib.hid (hb3.trans (hgf.below.mono hb3.size))
  have hw : w.heap.size ≤ wf.heap.size := by have := hb3.size; omega
  rw [hwf]
  obtain ⟨bx, hbxe⟩ : ∃ b, W3.heap.size = b := ⟨_, rfl⟩
  rw [hbxe] at hszf hbx ⊢
  clear hwf hgf hbxe HR1b HR2b hb3
  have kd : Below wf.heap.size wf wf.drew := (Below.refl _ wf).drew
  have HX := Lib.hid (fun W' (hW : Below wf.heap.size wf.drew W') => (show W'.cell? ⟨bx, 0, none⟩ = some (.int .i64 u) ∧ W'.cell? ⟨bx, 1, none⟩ = some (.int .i64 1) ∧ W'.cell? ⟨bx, 2, none⟩ = some (.int .i64 0) from
    ⟨((kd.trans hW).cell (p := ⟨bx, 0, none⟩) hszf).trans (cell_of_row _ _ 0 _ _ _ hbx), ((kd.trans hW).cell (p := ⟨bx, 1, none⟩) hszf).trans (cell_of_row _ _ 1 _ _ _ hbx), ((kd.trans hW).cell (p := ⟨bx, 2, none⟩) hszf).trans (cell_of_row _ _ 2 _ _ _ hbx)⟩))
  have HL := Lib.hid (fun W' (hW : Below wf.heap.size wf.drew W') => live_any La Lb Aa Ab La.length ca Lb.length cb wf.heap.size W' (HRf.out.below' (kd.trans hW) (Nat.le_refl _)) (HRf'.out.below' (kd.trans hW) (Nat.le_refl _)) (kd.trans hW).size (by omega))
  have HL2 := Lib.hid (fun W' (hW : Below wf.heap.size wf.drew W') => refLive_any La Lb Aa Ab La.length ca Lb.length cb wf.heap.size W' (HRf.out.below' (kd.trans hW) (Nat.le_refl _)) (HRf'.out.below' (kd.trans hW) (Nat.le_refl _)) (kd.trans hW).size (by omega))
  have HO := Lib.hid (fun W' (hW : Below wf.heap.size wf.drew W') => of_any La Lb y Aa Ab La.length ca Lb.length cb wf.heap.size W' (HRf.out.below' (kd.trans hW) (Nat.le_refl _)) (HRf'.out.below' (kd.trans hW) (Nat.le_refl _)) (kd.trans hW).size (by omega))
  have HO2 := Lib.hid (fun W' (hW : Below wf.heap.size wf.drew W') => refOf_any La Lb y Aa Ab La.length ca Lb.length cb wf.heap.size W' (HRf.out.below' (kd.trans hW) (Nat.le_refl _)) (HRf'.out.below' (kd.trans hW) (Nat.le_refl _)) (kd.trans hW).size (by omega))
  rw [HY.out] at HO HO2
  have KD := Lib.hid kd
  have k1 : Below wf.heap.size wf.drew wf.drew := Below.refl _ _
  clear hbx kd
  go_region_held3 (fun w' => w'.cell? ⟨bx, 0, none⟩ = some (.int .i64 u) ∧ w'.cell? ⟨bx, 1, none⟩ = some (.int .i64 1) ∧ w'.cell? ⟨bx, 2, none⟩ = some (.int .i64 0))
    (first | exact HX.out _ (by assumption) | go_keep)
    (first
      | (go_at_call 18; refine (awake_any _).mono ?_; rintro e w2 ⟨rfl, hb2⟩; have k2 : Below wf.heap.size wf.drew w2 := hb2; clear hb2)
      | (go_at_call 20; refine (HL.out _ k2).mono ?_; rintro e w3 ⟨v3, L3, rfl, hO3, hS3, hM3, hb3⟩; have k3 := k2.trans (hb3.mono k2.size); obtain ⟨A3, c3, rfl, _, _⟩ := (Rd.of_own hO3).form; have O3 := Lib.hid hO3; have S3 := Lib.hid hS3; have M3 := Lib.hid hM3; clear hO3 hS3 hM3 hb3)
      | (go_at_call 21; refine (HL2.out _ k3).mono ?_; rintro e w4 ⟨v4, L4, rfl, hO4, hS4, hM4, hb4⟩; have k4 := k3.trans (hb4.mono k3.size); obtain ⟨A4, c4, rfl, _, _⟩ := (Rd.of_own hO4).form; have hs := sameId_any L3 L4 A3 A4 _ c3 _ c4 w4.heap.size w4 (((Rd.of_own O3.out).below' hb4 (Nat.le_refl _)).more hb4.size) (Rd.of_own hO4); rw [decide_eq_true (live_eq S3.out hS4 M3.out hM4)] at hs; have HS4 := Lib.hid hs; clear hO4 hS4 hM4 hb4 hs)
      | (go_at_call 19; refine HS4.out.mono ?_; rintro e w5 ⟨rfl, hg5⟩; have k5 := k4.trans (hg5.below.mono k4.size); clear hg5)
      | (go_at_call 23; refine (HO.out _ k5).mono ?_; rintro e w6 ⟨v6, L6, rfl, hO6, hS6, hM6, hb6⟩; have k6 := k5.trans (hb6.mono k5.size); obtain ⟨A6, c6, rfl, _, _⟩ := (Rd.of_own hO6).form; have O6 := Lib.hid hO6; have S6 := Lib.hid hS6; have M6 := Lib.hid hM6; clear hO6 hS6 hM6 hb6)
      | (go_at_call 24; refine (HO2.out _ k6).mono ?_; rintro e w7 ⟨v7, L7, rfl, hO7, hS7, hM7, hb7⟩; have k7 := k6.trans (hb7.mono k6.size); obtain ⟨A7, c7, rfl, _, _⟩ := (Rd.of_own hO7).form; have hs := sameSt_any L6 L7 A6 A7 _ c6 _ c7 w7.heap.size w7 (((Rd.of_own O6.out).below' hb7 (Nat.le_refl _)).more hb7.size) (Rd.of_own hO7); rw [decide_eq_true (of_eq S6.out hS7 M6.out hM7)] at hs; have HS7 := Lib.hid hs; clear hO7 hS7 hM7 hb7 hs)
      | (go_at_call 22; refine HS7.out.mono ?_; rintro e w8 ⟨rfl, hg8⟩; have k8 := k7.trans (hg8.below.mono k7.size); clear hg8))
  have HE2 := Lib.hid (HBf.out.trans ((KD.out.trans k8).mono hw))
  clear k1 k2 k3 k4 k5 k6 k7 k8
  go_wp2
  go_ret
  exact ⟨rfl, HE2.out⟩
end Go.Proofs.Ytejafcdlkpmemaa
