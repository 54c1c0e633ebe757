/- The law EffectLater, walked. -/
import Derived.Test.YtejafcdlkpmemaaFD
import Derived.Test.YtejafcdlkpmemaaEP5
import Derived.Test.YtejafcdlkpmemaaX2
import Derived.Deep.CutRange
import Derived.Deep.AppendLies
namespace Go.Proofs.Ytejafcdlkpmemaa
open Go Go.RowKit Go.Maps Go.Shelf
theorem apart_base {W W' : World} {b b' : Nat} {e e' : TypeId} {K K' n n' : Nat} {v v' : Value} {xs xs' : List Value} (h : W.ownsRow b e K v n xs) (h' : W'.ownsRow b' e' K' v' n' xs') (hb : W.heap.size ≤ b') : Apart v v' := by
  intro g h1 h2
  have := (h.lt g h1).2
  have := (h'.lt g h2).1
  omega
theorem cells_of_heap {W : World} {b : Nat} {xs : List Value} {t : TypeId} {fr : Nat × Nat} (h : W.heap[b]? = some (.cells xs.toArray t fr)) : ∀ j u, xs[j]? = some u → W.cell? ((⟨b, 0, none⟩ : Addr).add j) = some u := by
  intro j u hu
  rw [Go.WideShapes.add_plain, Nat.zero_add, cell_of_row _ _ _ _ _ _ h, ← hu]
  simp
def LaterRel (w4 : World) (n : Nat) (P Q : List Stamp) (a b : Value) (W : World) : Prop :=
  W.ownsRow w4.heap.size 24 2 a n (P.flatMap stC) ∧ W.ownsRow w4.heap.size 24 2 b n (Q.flatMap stC) ∧ Apart a b ∧ Below w4.heap.size w4 W
set_option maxRecDepth 100000 in
set_option maxHeartbeats 8000000 in
theorem effectLater_walk (L : List Nat) (A : Option Addr) (n c : Nat) (u : Int) (hu : 0 ≤ u ∧ u ≤ 255) (w : World) (hL : ∀ x ∈ L, x < 256) (hR : Rd w w.heap.size 1 (.slice A n c) n (L.flatMap bC)) :
    Calls Try.prog 10 #[.slice A n c, .int .u8 u] w fun e w' => e = .returned (.bool true) ∧ Below w.heap.size w w' := by
  obtain ⟨t, rfl⟩ : ∃ p : Nat, u = (p : Int) := ⟨u.toNat, by omega⟩
  have it : IntKind.i64.wrap (t : Int) = t := IntWalk.i64_in _ (by omega)
  obtain ⟨ti, hi, hz0, hz1, hz2⟩ := info_parts info24
  have HCh := Lib.hid (fun W (hW : Below w.heap.size w W) => chosen_any L A n c w.heap.size W hL (hR.below' hW (Nat.le_refl _)) hW.size)
  clear hL hR
  go_enter Try.func10, Try.ntmps10
  go_wp2_with fail
  refine (eawake_any w).mono ?_
  rintro e w1 ⟨rfl, hb1⟩
  go_wp2_with fail
  refine (HCh.out w1 hb1).mono ?_
  rintro e w2 ⟨va, vb, rfl, hOa, hOb, _, hb2⟩
  obtain ⟨N, hN⟩ : ∃ N, min L.length 40 = N := ⟨_, rfl⟩
  rw [hN] at hOa hOb
  have hN40 : N ≤ 40 := by omega
  obtain ⟨A1, c1, rfl, hLc, _⟩ := (Rd.of_own hOa).form
  obtain ⟨A2, c2, rfl, hLc', _⟩ := (Rd.of_own hOb).form
  have HOa := Lib.hid hOa
  have HOb := Lib.hid hOb
  have HB2 := Lib.hid (hb1.trans (hb2.mono hb1.size))
  clear hOa hOb hb1 hb2 HCh hN
  go_wp2_with fail
  refine (on_any (cNames N) (cUndo L N) A1 A2 N c1 N c2 w2.heap.size w2 (Rd.of_own HOa.out) (Rd.of_own HOb.out) (Nat.le_refl _) (by omega)).mono ?_
  rintro e w3 ⟨v6, X, rfl, hO6, hX, hXl, hb3⟩
  obtain ⟨A6, c6, rfl, hl6, _⟩ := (Rd.of_own hO6).form
  rw [cNames_len] at hXl
  have HO6 := Lib.hid hO6
  have HX := Lib.hid hX
  have HB3 := Lib.hid hb3
  clear hO6 hX hb3
  by_cases h0 : X.length = 0
  · have hX0 : X = [] := List.eq_nil_of_length_eq_zero h0
    have hN0 : N = 0 := c_nil (L := L) (by omega) (hX0 ▸ HX.out)
    have HF := Lib.hid (HB2.out.trans (HB3.out.mono HB2.out.size))
    subst hX0
    subst hN0
    clear h0
    go_wp2
    go_ret
    exact ⟨rfl, HF.out⟩
  · have hXp : 0 < X.length := by omega
    have j0 : ((X.length : Int) == 0) = false := by have : (X.length : Int) ≠ 0 := by omega
                                                    simpa using this
    obtain ⟨m, hm⟩ : ∃ m, t % X.length = m := ⟨_, rfl⟩
    have hmN : m < X.length := by rw [← hm]; exact Nat.mod_lt _ hXp
    have md : Int.tmod (t : Int) (X.length : Int) = (m : Int) := by rw [Int.tmod_eq_emod_of_nonneg (by omega), ← hm]; rfl
    obtain ⟨g6, og6, rfl, hB6, hc6⟩ := rd_at stC 2 (fun _ => rfl) (by decide) (Rd.of_own HO6.out) hmN
    have hyX : X[m] ∈ X := List.getElem_mem _
    obtain ⟨y, hy⟩ : ∃ y, X[m] = y := ⟨_, rfl⟩
    rw [hy] at hc6 hyX
    have HYX := Lib.hid hyX
    have e0 : w3.cell? ⟨g6, og6 + m * 2, none⟩ = some (.int .i64 y.T) := hc6 0 _ rfl
    have e1 : w3.cell? ⟨g6, og6 + m * 2 + 1, none⟩ = some (.int .i64 y.R) := hc6 1 _ rfl
    have i1 : (0 : Int) ≤ (m : Int) := by omega
    have i2 : (m : Int) < (X.length : Int) := by omega
    clear h0 hm hy hyX hc6
    obtain ⟨w4, hw4⟩ : ∃ W, ((w3.alloc (.cells #[.int .i64 y.T, .int .i64 y.R] 24)).alloc (.cells #[.int .i64 1000, .int .i64 1] 24)).alloc (.cells #[.int .i64 1001, .int .i64 1] 24) = W := ⟨_, rfl⟩
    have hg4 : Grows w3 w4 := by rw [← hw4]; exact (((Grows.refl w3).alloc _).alloc _).alloc _
    have hs4 : w4.heap.size = w3.heap.size + 3 := by rw [← hw4]; simp
    have hy4 : w4.heap[w3.heap.size]? = some (.cells #[.int .i64 y.T, .int .i64 y.R] 24 (0, 0)) := by
      rw [← hw4]
      exact ((((Grows.refl (w3.alloc (.cells #[.int .i64 y.T, .int .i64 y.R] 24))).alloc _).alloc _).below.block w3.heap.size (by simp)).trans (heap_alloc_new w3 _)
    have ho4 : w4.heap[w3.heap.size + 1]? = some (.cells #[.int .i64 1000, .int .i64 1] 24 (0, 0)) := by
      rw [← hw4]
      have := heap_alloc_new (w3.alloc (.cells #[.int .i64 y.T, .int .i64 y.R] 24)) (.cells #[.int .i64 1000, .int .i64 1] 24)
      rw [World.size_alloc] at this
      exact (Below.heap_alloc _ _ _ (by simp)).trans this
    have ht4 : w4.heap[w3.heap.size + 1 + 1]? = some (.cells #[.int .i64 1001, .int .i64 1] 24 (0, 0)) := by
      rw [← hw4]
      have := heap_alloc_new ((w3.alloc (.cells #[.int .i64 y.T, .int .i64 y.R] 24)).alloc (.cells #[.int .i64 1000, .int .i64 1] 24)) (.cells #[.int .i64 1001, .int .i64 1] 24)
      rwa [World.size_alloc, World.size_alloc] at this
    have HW4 := Lib.hid hw4
    have HA4 := Lib.hid (own_grows (own_grows HOa.out HB3.out) hg4.below)
    have HB4 := Lib.hid (own_grows (own_grows HOb.out HB3.out) hg4.below)
    have HX4 := Lib.hid (own_grows HO6.out hg4.below)
    have HF4 := Lib.hid (HB2.out.trans ((HB3.out.trans (hg4.below.mono HB3.out.size)).mono HB2.out.size))
    have hl1 := (Array.getElem?_eq_some_iff.1 hy4).1
    have hl2 := (Array.getElem?_eq_some_iff.1 ho4).1
    have hl3 := (Array.getElem?_eq_some_iff.1 ht4).1
    have HBX := Lib.hid (fun W (hW : Below w4.heap.size w4 W) => (show (W.cell? ⟨w3.heap.size, 0, none⟩ = some (.int .i64 y.T) ∧ W.cell? ⟨w3.heap.size, 1, none⟩ = some (.int .i64 y.R)) ∧ (W.cell? ⟨w3.heap.size + 1, 0, none⟩ = some (.int .i64 1000) ∧ W.cell? ⟨w3.heap.size + 1, 1, none⟩ = some (.int .i64 1)) ∧ (W.cell? ⟨w3.heap.size + 1 + 1, 0, none⟩ = some (.int .i64 1001) ∧ W.cell? ⟨w3.heap.size + 1 + 1, 1, none⟩ = some (.int .i64 1)) from
      ⟨⟨(hW.cell (p := ⟨w3.heap.size, 0, none⟩) hl1).trans (cell_of_row _ _ 0 _ _ _ hy4), (hW.cell (p := ⟨w3.heap.size, 1, none⟩) hl1).trans (cell_of_row _ _ 1 _ _ _ hy4)⟩, ⟨(hW.cell (p := ⟨w3.heap.size + 1, 0, none⟩) hl2).trans (cell_of_row _ _ 0 _ _ _ ho4), (hW.cell (p := ⟨w3.heap.size + 1, 1, none⟩) hl2).trans (cell_of_row _ _ 1 _ _ _ ho4)⟩, ⟨(hW.cell (p := ⟨w3.heap.size + 1 + 1, 0, none⟩) hl3).trans (cell_of_row _ _ 0 _ _ _ ht4), (hW.cell (p := ⟨w3.heap.size + 1 + 1, 1, none⟩) hl3).trans (cell_of_row _ _ 1 _ _ _ ht4)⟩⟩))
    clear hw4 hg4 hs4 hy4 ho4 ht4 hl1 hl2 hl3 HOa HOb HO6 HB3 HB2
    go_wp2_with (at_builtin; rw [HW4.out]; refine wpList_append_row rfl _ _ 32 rfl w4.heap.size 24 ti _ 2 16 Try.underlying32 hi hz0 hz1 hz2 rfl (by decide) _ 0 [] rfl (World.ownsRow_nil _ _ _ _) _ w1.heap.size N ((cNames N).flatMap stC) rfl HA4.out (list_one stC_one _) (by unfold maxLen; omega) (by omega) (Nat.le_refl _) ?_)
    intro va W5 hown5 hgrow5
    have hown5 : W5.ownsRow w4.heap.size 24 2 va N ((cNames N).flatMap stC) := by simpa using hown5
    have hb5 : Below w4.heap.size w4 W5 := (Below.refl _ _).grown hgrow5 (Nat.le_refl _) (fun j hj => by simp [Value.ownBlock] at hj)
    obtain ⟨Ava, cva, rfl, _, _⟩ := (Rd.of_own hown5).form
    have HN5 := Lib.hid hown5
    have HU5 := Lib.hid (own_grows HB4.out hb5)
    have HBE5 := Lib.hid hb5
    have h45 := hb5.size
    clear hown5 hgrow5 hb5
    go_wp2_with (at_builtin; refine wpList_append_row rfl _ _ 32 rfl W5.heap.size 24 ti _ 2 16 Try.underlying32 hi hz0 hz1 hz2 rfl (by decide) _ 0 [] rfl (World.ownsRow_nil _ _ _ _) _ w1.heap.size N ((cUndo L N).flatMap stC) rfl HU5.out (list_one stC_one _) (by unfold maxLen; omega) (by omega) (Nat.le_refl _) ?_)
    intro vb W6 hown6 hgrow6
    have hown6 : W6.ownsRow W5.heap.size 24 2 vb N ((cUndo L N).flatMap stC) := by simpa using hown6
    have hb6 : Below W5.heap.size W5 W6 := (Below.refl _ _).grown hgrow6 (Nat.le_refl _) (fun j hj => by simp [Value.ownBlock] at hj)
    obtain ⟨Avb, cvb, rfl, _, _⟩ := (Rd.of_own hown6).form
    have hap := apart_base HN5.out hown6 (Nat.le_refl _)
    have hrel6 : LaterRel w4 N (cNames N) (cUndo L N) (.slice Ava N cva) (.slice Avb N cvb) W6 := ⟨own_grows HN5.out hb6, own_base hown6 h45, hap, HBE5.out.trans (hb6.mono h45)⟩
    have HRel := Lib.hid hrel6
    clear hown6 hgrow6 hb6 hap hrel6 HN5 HU5 HBE5
    go_upto_region 13 with (fail)
    go_cut [12, 13] from 53 to 60 (fun a b wx => LaterRel w4 (N + 1) ((cNames N) ++ [oneS]) ((cUndo L N) ++ [y]) a b wx)
    case first =>
      obtain ⟨hOA, hOB, hap, k0⟩ := HRel.out
      have HSx := Lib.hid (fun W' (hW : Below w4.heap.size w4 W') => (show (W'.cell? ⟨(w3.heap.size + 1), 0, none⟩ = some (.int .i64 1000) ∧ W'.cell? ⟨(w3.heap.size + 1), 1, none⟩ = some (.int .i64 1)) ∧ (W'.cell? ⟨w3.heap.size, 0, none⟩ = some (.int .i64 y.T) ∧ W'.cell? ⟨w3.heap.size, 1, none⟩ = some (.int .i64 y.R)) from ⟨(HBX.out W' hW).2.1, (HBX.out W' hW).1⟩))
      have HOA1 := Lib.hid (show (W6.alloc (.cells #[.int .i64 1000, .int .i64 1] 24)).drew.ownsRow w4.heap.size 24 2 (.slice Ava N cva) N ((cNames N).flatMap stC) from hOA.alloc _)
      have HOB1 := Lib.hid (show (W6.alloc (.cells #[.int .i64 1000, .int .i64 1] 24)).drew.ownsRow w4.heap.size 24 2 (.slice Avb N cvb) N ((cUndo L N).flatMap stC) from hOB.alloc _)
      have hk1 : Below w4.heap.size w4 (W6.alloc (.cells #[.int .i64 1000, .int .i64 1] 24)).drew := (k0.alloc k0.size _).drew
      have HOA2 := Lib.hid (show ((W6.alloc (.cells #[.int .i64 1000, .int .i64 1] 24)).alloc (.cells #[.int .i64 y.T, .int .i64 y.R] 24)).drew.ownsRow w4.heap.size 24 2 (.slice Ava N cva) N ((cNames N).flatMap stC) from (hOA.alloc _).alloc _)
      have HOB2 := Lib.hid (show ((W6.alloc (.cells #[.int .i64 1000, .int .i64 1] 24)).alloc (.cells #[.int .i64 y.T, .int .i64 y.R] 24)).drew.ownsRow w4.heap.size 24 2 (.slice Avb N cvb) N ((cUndo L N).flatMap stC) from (hOB.alloc _).alloc _)
      have hk2 : Below w4.heap.size w4 ((W6.alloc (.cells #[.int .i64 1000, .int .i64 1] 24)).alloc (.cells #[.int .i64 y.T, .int .i64 y.R] 24)).drew := ((k0.alloc k0.size _).alloc (k0.alloc k0.size _).size _).drew
      have HOA3 := Lib.hid (show ((W6.alloc (.cells #[.int .i64 y.T, .int .i64 y.R] 24)).alloc (.cells #[.int .i64 1000, .int .i64 1] 24)).drew.ownsRow w4.heap.size 24 2 (.slice Ava N cva) N ((cNames N).flatMap stC) from (hOA.alloc _).alloc _)
      have HOB3 := Lib.hid (show ((W6.alloc (.cells #[.int .i64 y.T, .int .i64 y.R] 24)).alloc (.cells #[.int .i64 1000, .int .i64 1] 24)).drew.ownsRow w4.heap.size 24 2 (.slice Avb N cvb) N ((cUndo L N).flatMap stC) from (hOB.alloc _).alloc _)
      have hk3 : Below w4.heap.size w4 ((W6.alloc (.cells #[.int .i64 y.T, .int .i64 y.R] 24)).alloc (.cells #[.int .i64 1000, .int .i64 1] 24)).drew := ((k0.alloc k0.size _).alloc (k0.alloc k0.size _).size _).drew
      have HCA1 := Lib.hid (show ∀ j u, ([.int .i64 1000, .int .i64 1] : List Value)[j]? = some u → (W6.alloc (.cells #[.int .i64 1000, .int .i64 1] 24)).drew.cell? ((⟨W6.heap.size, 0, none⟩ : Addr).add j) = some u from cells_new W6 [.int .i64 1000, .int .i64 1] 24)
      have hhA2 : ((W6.alloc (.cells #[.int .i64 1000, .int .i64 1] 24)).alloc (.cells #[.int .i64 y.T, .int .i64 y.R] 24)).drew.heap[W6.heap.size]? = some (.cells #[.int .i64 1000, .int .i64 1] 24 (0, 0)) := (Below.heap_alloc _ _ _ (by simp)).trans (heap_alloc_new W6 _)
      have hhB2 : ((W6.alloc (.cells #[.int .i64 1000, .int .i64 1] 24)).alloc (.cells #[.int .i64 y.T, .int .i64 y.R] 24)).drew.heap[(W6.heap.size + 1)]? = some (.cells #[.int .i64 y.T, .int .i64 y.R] 24 (0, 0)) := by have := heap_alloc_new (W6.alloc (.cells #[.int .i64 1000, .int .i64 1] 24)) (.cells #[.int .i64 y.T, .int .i64 y.R] 24); rwa [World.size_alloc] at this
      have hhB3 : ((W6.alloc (.cells #[.int .i64 y.T, .int .i64 y.R] 24)).alloc (.cells #[.int .i64 1000, .int .i64 1] 24)).drew.heap[W6.heap.size]? = some (.cells #[.int .i64 y.T, .int .i64 y.R] 24 (0, 0)) := (Below.heap_alloc _ _ _ (by simp)).trans (heap_alloc_new W6 _)
      have hhA3 : ((W6.alloc (.cells #[.int .i64 y.T, .int .i64 y.R] 24)).alloc (.cells #[.int .i64 1000, .int .i64 1] 24)).drew.heap[(W6.heap.size + 1)]? = some (.cells #[.int .i64 1000, .int .i64 1] 24 (0, 0)) := by have := heap_alloc_new (W6.alloc (.cells #[.int .i64 y.T, .int .i64 y.R] 24)) (.cells #[.int .i64 1000, .int .i64 1] 24); rwa [World.size_alloc] at this
      have HCA2 := Lib.hid (cells_of_heap (xs := [.int .i64 1000, .int .i64 1]) hhA2)
      have HHB2 := Lib.hid hhB2
      have HCA3 := Lib.hid (cells_of_heap (xs := [.int .i64 1000, .int .i64 1]) hhA3)
      have HHB3 := Lib.hid hhB3
      have HAP := Lib.hid hap
      have HOAl := Lib.hid (fun k (hk : ((.slice Ava N cva) : Value).ownBlock = some k) => (hOA.lt k hk))
      clear hOA hOB hap hhA2 hhA3 hhB2 hhB3
      go_region_held3 (fun W' => (W'.cell? ⟨(w3.heap.size + 1), 0, none⟩ = some (.int .i64 1000) ∧ W'.cell? ⟨(w3.heap.size + 1), 1, none⟩ = some (.int .i64 1)) ∧ (W'.cell? ⟨w3.heap.size, 0, none⟩ = some (.int .i64 y.T) ∧ W'.cell? ⟨w3.heap.size, 1, none⟩ = some (.int .i64 y.R)))
        (first | exact HSx.out _ k0.drew | exact HSx.out _ hk1 | exact HSx.out _ hk2 | exact HSx.out _ hk3 | exact HSx.out _ ((k0.alloc k0.size _).drew) | exact HSx.out _ kA | exact HSx.out _ (kA.alloc kA.size _) | exact HSx.out _ kB | go_keep)
        (first
          | (refine step_append_lies _ (by rfl) _ _ _ (by rfl) w4.heap.size 24 ti _ 2 16 Try.underlying32 hi hz0 hz1 hz2 rfl (by omega) _ N _ (by rfl) HOA1.out ⟨W6.heap.size, 0, none⟩ 1 1 [.int .i64 1000, .int .i64 1] (by rfl) (by rfl) HCA1.out (by simp [Value.oneCell']) (by omega) (by unfold maxLen; omega) (by omega) hk1.size _ (by rfl) ?_; intro g cap WA hown hgrow hat hgl; have hNA : WA.ownsRow w4.heap.size 24 2 (.slice (some ⟨g, 0, none⟩) (N + 1) cap) (N + 1) (((cNames N) ++ [oneS]).flatMap stC) := (by rw [List.flatMap_append, List.flatMap_singleton, stC_T]; exact hown); have hNB := HOB1.out.kept hgrow HAP.out.kept; have hAP : Apart (.slice (some ⟨g, 0, none⟩) (N + 1) cap) (.slice Avb N cvb) := HAP.out.new HOB1.out (hat.elim (fun e => .inl e.symm) (fun e => .inr (congrArg some e))) (Nat.le_refl _); have kA := hk1.grown hgrow hk1.size (fun j hj => (HOAl.out j hj).1); clear hown hgrow hat hgl)
          | (refine step_append_lies _ (by rfl) _ _ _ (by rfl) w4.heap.size 24 ti _ 2 16 Try.underlying32 hi hz0 hz1 hz2 rfl (by omega) _ N _ (by rfl) HOA2.out ⟨W6.heap.size, 0, none⟩ 1 1 [.int .i64 1000, .int .i64 1] (by rfl) (by rfl) HCA2.out (by simp [Value.oneCell']) (by omega) (by unfold maxLen; omega) (by omega) hk2.size _ (by rfl) ?_; intro g cap WA hown hgrow hat hgl; have hNA : WA.ownsRow w4.heap.size 24 2 (.slice (some ⟨g, 0, none⟩) (N + 1) cap) (N + 1) (((cNames N) ++ [oneS]).flatMap stC) := (by rw [List.flatMap_append, List.flatMap_singleton, stC_T]; exact hown); have hNB := HOB2.out.kept hgrow HAP.out.kept; have hAP : Apart (.slice (some ⟨g, 0, none⟩) (N + 1) cap) (.slice Avb N cvb) := HAP.out.new HOB2.out (hat.elim (fun e => .inl e.symm) (fun e => .inr (congrArg some e))) (Nat.le_refl _); have kA := hk2.grown hgrow hk2.size (fun j hj => (HOAl.out j hj).1); have hCB := cells_of_heap (xs := [.int .i64 y.T, .int .i64 y.R]) ((hgrow.block (W6.heap.size + 1) (Array.getElem?_eq_some_iff.1 HHB2.out).1 (fun e => by have := (HOAl.out _ e.symm).2; omega)).trans HHB2.out); clear hown hgrow hat hgl)
          | (refine step_append_lies _ (by rfl) _ _ _ (by rfl) w4.heap.size 24 ti _ 2 16 Try.underlying32 hi hz0 hz1 hz2 rfl (by omega) _ N _ (by rfl) HOA3.out ⟨(W6.heap.size + 1), 0, none⟩ 1 1 [.int .i64 1000, .int .i64 1] (by rfl) (by rfl) HCA3.out (by simp [Value.oneCell']) (by omega) (by unfold maxLen; omega) (by omega) hk3.size _ (by rfl) ?_; intro g cap WA hown hgrow hat hgl; have hNA : WA.ownsRow w4.heap.size 24 2 (.slice (some ⟨g, 0, none⟩) (N + 1) cap) (N + 1) (((cNames N) ++ [oneS]).flatMap stC) := (by rw [List.flatMap_append, List.flatMap_singleton, stC_T]; exact hown); have hNB := HOB3.out.kept hgrow HAP.out.kept; have hAP : Apart (.slice (some ⟨g, 0, none⟩) (N + 1) cap) (.slice Avb N cvb) := HAP.out.new HOB3.out (hat.elim (fun e => .inl e.symm) (fun e => .inr (congrArg some e))) (Nat.le_refl _); have kA := hk3.grown hgrow hk3.size (fun j hj => (HOAl.out j hj).1); have hCB := cells_of_heap (xs := [.int .i64 y.T, .int .i64 y.R]) ((hgrow.block W6.heap.size (Array.getElem?_eq_some_iff.1 HHB3.out).1 (fun e => by have := (HOAl.out _ e.symm).2; omega)).trans HHB3.out); clear hown hgrow hat hgl)
          | (refine step_append_lies _ (by rfl) _ _ _ (by rfl) w4.heap.size 24 ti _ 2 16 Try.underlying32 hi hz0 hz1 hz2 rfl (by omega) _ N _ (by rfl) (hNB.alloc (.cells #[.int .i64 y.T, .int .i64 y.R] 24)) ⟨WA.heap.size, 0, none⟩ 1 1 [.int .i64 y.T, .int .i64 y.R] (by rfl) (by rfl) (cells_new WA [.int .i64 y.T, .int .i64 y.R] 24) (by simp [Value.oneCell']) (by omega) (by unfold maxLen; omega) (by omega) (kA.alloc kA.size (.cells #[.int .i64 y.T, .int .i64 y.R] 24)).size _ (by rfl) ?_; intro g2 cap2 WB hown2 hgrow2 hat2 hgl2; have hNB2 : WB.ownsRow w4.heap.size 24 2 (.slice (some ⟨g2, 0, none⟩) (N + 1) cap2) (N + 1) (((cUndo L N) ++ [y]).flatMap stC) := (by rw [List.flatMap_append, List.flatMap_singleton, stC_T]; exact hown2); have hNA2 := (hNA.alloc (.cells #[.int .i64 y.T, .int .i64 y.R] 24)).kept hgrow2 hAP.symm.kept; have hAP2 : Apart (.slice (some ⟨g2, 0, none⟩) (N + 1) cap2) (.slice (some ⟨g, 0, none⟩) (N + 1) cap) := hAP.symm.new hNA (hat2.elim (fun e => .inl e.symm) (fun e => .inr (congrArg some e))) (by rw [World.size_alloc]; exact Nat.le_succ _); have kB := ((kA.alloc kA.size (.cells #[.int .i64 y.T, .int .i64 y.R] 24))).grown hgrow2 (kA.alloc kA.size (.cells #[.int .i64 y.T, .int .i64 y.R] 24)).size (fun j hj => (hNB.lt j hj).1); have hRelN : LaterRel w4 (N + 1) ((cNames N) ++ [oneS]) ((cUndo L N) ++ [y]) (.slice (some ⟨g, 0, none⟩) (N + 1) cap) (.slice (some ⟨g2, 0, none⟩) (N + 1) cap2) WB := ⟨hNA2, hNB2, hAP2.symm, kB⟩; clear hown2 hgrow2 hat2 hgl2)
          | (refine step_append_lies _ (by rfl) _ _ _ (by rfl) w4.heap.size 24 ti _ 2 16 Try.underlying32 hi hz0 hz1 hz2 rfl (by omega) _ N _ (by rfl) hNB ⟨(W6.heap.size + 1), 0, none⟩ 1 1 [.int .i64 y.T, .int .i64 y.R] (by rfl) (by rfl) hCB (by simp [Value.oneCell']) (by omega) (by unfold maxLen; omega) (by omega) kA.size _ (by rfl) ?_; intro g2 cap2 WB hown2 hgrow2 hat2 hgl2; have hNB2 : WB.ownsRow w4.heap.size 24 2 (.slice (some ⟨g2, 0, none⟩) (N + 1) cap2) (N + 1) (((cUndo L N) ++ [y]).flatMap stC) := (by rw [List.flatMap_append, List.flatMap_singleton, stC_T]; exact hown2); have hNA2 := (hNA).kept hgrow2 hAP.symm.kept; have hAP2 : Apart (.slice (some ⟨g2, 0, none⟩) (N + 1) cap2) (.slice (some ⟨g, 0, none⟩) (N + 1) cap) := hAP.symm.new hNA (hat2.elim (fun e => .inl e.symm) (fun e => .inr (congrArg some e))) (Nat.le_refl _); have kB := (kA).grown hgrow2 kA.size (fun j hj => (hNB.lt j hj).1); have hRelN : LaterRel w4 (N + 1) ((cNames N) ++ [oneS]) ((cUndo L N) ++ [y]) (.slice (some ⟨g, 0, none⟩) (N + 1) cap) (.slice (some ⟨g2, 0, none⟩) (N + 1) cap2) WB := ⟨hNA2, hNB2, hAP2.symm, kB⟩; clear hown2 hgrow2 hat2 hgl2)
          | (refine step_append_lies _ (by rfl) _ _ _ (by rfl) w4.heap.size 24 ti _ 2 16 Try.underlying32 hi hz0 hz1 hz2 rfl (by omega) _ N _ (by rfl) hNB ⟨W6.heap.size, 0, none⟩ 1 1 [.int .i64 y.T, .int .i64 y.R] (by rfl) (by rfl) hCB (by simp [Value.oneCell']) (by omega) (by unfold maxLen; omega) (by omega) kA.size _ (by rfl) ?_; intro g2 cap2 WB hown2 hgrow2 hat2 hgl2; have hNB2 : WB.ownsRow w4.heap.size 24 2 (.slice (some ⟨g2, 0, none⟩) (N + 1) cap2) (N + 1) (((cUndo L N) ++ [y]).flatMap stC) := (by rw [List.flatMap_append, List.flatMap_singleton, stC_T]; exact hown2); have hNA2 := (hNA).kept hgrow2 hAP.symm.kept; have hAP2 : Apart (.slice (some ⟨g2, 0, none⟩) (N + 1) cap2) (.slice (some ⟨g, 0, none⟩) (N + 1) cap) := hAP.symm.new hNA (hat2.elim (fun e => .inl e.symm) (fun e => .inr (congrArg some e))) (Nat.le_refl _); have kB := (kA).grown hgrow2 kA.size (fun j hj => (hNB.lt j hj).1); have hRelN : LaterRel w4 (N + 1) ((cNames N) ++ [oneS]) ((cUndo L N) ++ [y]) (.slice (some ⟨g, 0, none⟩) (N + 1) cap) (.slice (some ⟨g2, 0, none⟩) (N + 1) cap2) WB := ⟨hNA2, hNB2, hAP2.symm, kB⟩; clear hown2 hgrow2 hat2 hgl2))
      all_goals (go_wp2_with fail; go_meet; exact hRelN)
    case rest =>
    obtain ⟨hOA, hOB, hap, hbW⟩ := hcut
    obtain ⟨A7, c7, rfl, _, _⟩ := (Rd.of_own hOA).form
    obtain ⟨A8, c8, rfl, _, _⟩ := (Rd.of_own hOB).form
    have HOA7 := Lib.hid hOA
    have HOB7 := Lib.hid hOB
    have HAP7 := Lib.hid hap
    have HBW7 := Lib.hid hbW
    have hmn : min (N + 1) (N + 1) = N + 1 := Nat.min_self _
    clear hOA hOB hap hbW hmn
    go_wp2_with fail
    refine (on_any (cNames N ++ [oneS]) (cUndo L N ++ [y]) A7 A8 (N + 1) c7 (N + 1) c8 wc.heap.size wc (Rd.of_own HOA7.out) (Rd.of_own HOB7.out) (Nat.le_refl _) (by omega)).mono ?_
    rintro e w7 ⟨v7, Z, rfl, hO7, hZ, _, hb7⟩
    obtain ⟨A9, c9, rfl, _, _⟩ := (Rd.of_own hO7).form
    obtain ⟨hyZ, hoZ⟩ := later_one (L := L) hN40 HX.out HYX.out hZ
    have k7 := HBW7.out.trans (hb7.mono HBW7.out.size)
    have HHS := Lib.hid (fun s W (hW : Below w7.heap.size w7 W) => hasStamp_any Z s A9 _ c9 w7.heap.size W ((Rd.of_own hO7).below' hW (Nat.le_refl _)) hW.size)
    have HB7 := Lib.hid hb7
    have HYZ := Lib.hid hyZ
    have HOZ := Lib.hid hoZ
    obtain ⟨⟨y0, y1⟩, ⟨o0, o1⟩, _⟩ := HBX.out w7 k7
    clear hO7 hZ hyZ hoZ hb7
    go_wp2_with fail
    refine (HHS.out y w7 (Below.refl _ _)).mono ?_
    rw [decide_eq_false HYZ.out]
    rintro e w8 ⟨rfl, hg8⟩
    have k8 := k7.trans (hg8.below.mono k7.size)
    clear y0 y1 o0 o1
    obtain ⟨⟨y0, y1⟩, ⟨o0, o1⟩, _⟩ := HBX.out w8 k8
    go_wp2_with fail
    refine (HHS.out oneS w8 hg8.below).mono ?_
    rw [decide_eq_true HOZ.out]
    rintro e w9 ⟨rfl, hg9⟩
    have k9 := k8.trans (hg9.below.mono k8.size)
    have hb79 : Below wc.heap.size wc w9 := HB7.out.trans ((hg8.below.trans (hg9.below.mono hg8.below.size)).mono HB7.out.size)
    have hrel9 : LaterRel w4 (N + 1) (cNames N ++ [oneS]) (cUndo L N ++ [y]) (.slice A7 (N + 1) c7) (.slice A8 (N + 1) c8) w9 := ⟨own_grows HOA7.out hb79, own_grows HOB7.out hb79, HAP7.out, k9⟩
    have HRel9 := Lib.hid hrel9
    clear hrel9 k7 k8 k9 hb79 hg8 hg9 y0 y1 o0 o1 HHS HB7
    go_upto_region 17 with (fail)
    go_cut [12, 13] from 73 to 80 (fun a b wx => LaterRel w4 ((N + 1) + 1) ((cNames N ++ [oneS]) ++ [twoS]) ((cUndo L N ++ [y]) ++ [oneS]) a b wx)
    case first =>
      obtain ⟨hOA, hOB, hap, k0⟩ := HRel9.out
      have HSx := Lib.hid (fun W' (hW : Below w4.heap.size w4 W') => (show (W'.cell? ⟨(w3.heap.size + 1 + 1), 0, none⟩ = some (.int .i64 1001) ∧ W'.cell? ⟨(w3.heap.size + 1 + 1), 1, none⟩ = some (.int .i64 1)) ∧ (W'.cell? ⟨(w3.heap.size + 1), 0, none⟩ = some (.int .i64 1000) ∧ W'.cell? ⟨(w3.heap.size + 1), 1, none⟩ = some (.int .i64 1)) from ⟨(HBX.out W' hW).2.2, (HBX.out W' hW).2.1⟩))
      have HOA1 := Lib.hid (show (w9.alloc (.cells #[.int .i64 1001, .int .i64 1] 24)).drew.ownsRow w4.heap.size 24 2 (.slice A7 (N + 1) c7) (N + 1) ((cNames N ++ [oneS]).flatMap stC) from hOA.alloc _)
      have HOB1 := Lib.hid (show (w9.alloc (.cells #[.int .i64 1001, .int .i64 1] 24)).drew.ownsRow w4.heap.size 24 2 (.slice A8 (N + 1) c8) (N + 1) ((cUndo L N ++ [y]).flatMap stC) from hOB.alloc _)
      have hk1 : Below w4.heap.size w4 (w9.alloc (.cells #[.int .i64 1001, .int .i64 1] 24)).drew := (k0.alloc k0.size _).drew
      have HOA2 := Lib.hid (show ((w9.alloc (.cells #[.int .i64 1001, .int .i64 1] 24)).alloc (.cells #[.int .i64 1000, .int .i64 1] 24)).drew.ownsRow w4.heap.size 24 2 (.slice A7 (N + 1) c7) (N + 1) ((cNames N ++ [oneS]).flatMap stC) from (hOA.alloc _).alloc _)
      have HOB2 := Lib.hid (show ((w9.alloc (.cells #[.int .i64 1001, .int .i64 1] 24)).alloc (.cells #[.int .i64 1000, .int .i64 1] 24)).drew.ownsRow w4.heap.size 24 2 (.slice A8 (N + 1) c8) (N + 1) ((cUndo L N ++ [y]).flatMap stC) from (hOB.alloc _).alloc _)
      have hk2 : Below w4.heap.size w4 ((w9.alloc (.cells #[.int .i64 1001, .int .i64 1] 24)).alloc (.cells #[.int .i64 1000, .int .i64 1] 24)).drew := ((k0.alloc k0.size _).alloc (k0.alloc k0.size _).size _).drew
      have HOA3 := Lib.hid (show ((w9.alloc (.cells #[.int .i64 1000, .int .i64 1] 24)).alloc (.cells #[.int .i64 1001, .int .i64 1] 24)).drew.ownsRow w4.heap.size 24 2 (.slice A7 (N + 1) c7) (N + 1) ((cNames N ++ [oneS]).flatMap stC) from (hOA.alloc _).alloc _)
      have HOB3 := Lib.hid (show ((w9.alloc (.cells #[.int .i64 1000, .int .i64 1] 24)).alloc (.cells #[.int .i64 1001, .int .i64 1] 24)).drew.ownsRow w4.heap.size 24 2 (.slice A8 (N + 1) c8) (N + 1) ((cUndo L N ++ [y]).flatMap stC) from (hOB.alloc _).alloc _)
      have hk3 : Below w4.heap.size w4 ((w9.alloc (.cells #[.int .i64 1000, .int .i64 1] 24)).alloc (.cells #[.int .i64 1001, .int .i64 1] 24)).drew := ((k0.alloc k0.size _).alloc (k0.alloc k0.size _).size _).drew
      have HCA1 := Lib.hid (show ∀ j u, ([.int .i64 1001, .int .i64 1] : List Value)[j]? = some u → (w9.alloc (.cells #[.int .i64 1001, .int .i64 1] 24)).drew.cell? ((⟨w9.heap.size, 0, none⟩ : Addr).add j) = some u from cells_new w9 [.int .i64 1001, .int .i64 1] 24)
      have hhA2 : ((w9.alloc (.cells #[.int .i64 1001, .int .i64 1] 24)).alloc (.cells #[.int .i64 1000, .int .i64 1] 24)).drew.heap[w9.heap.size]? = some (.cells #[.int .i64 1001, .int .i64 1] 24 (0, 0)) := (Below.heap_alloc _ _ _ (by simp)).trans (heap_alloc_new w9 _)
      have hhB2 : ((w9.alloc (.cells #[.int .i64 1001, .int .i64 1] 24)).alloc (.cells #[.int .i64 1000, .int .i64 1] 24)).drew.heap[(w9.heap.size + 1)]? = some (.cells #[.int .i64 1000, .int .i64 1] 24 (0, 0)) := by have := heap_alloc_new (w9.alloc (.cells #[.int .i64 1001, .int .i64 1] 24)) (.cells #[.int .i64 1000, .int .i64 1] 24); rwa [World.size_alloc] at this
      have hhB3 : ((w9.alloc (.cells #[.int .i64 1000, .int .i64 1] 24)).alloc (.cells #[.int .i64 1001, .int .i64 1] 24)).drew.heap[w9.heap.size]? = some (.cells #[.int .i64 1000, .int .i64 1] 24 (0, 0)) := (Below.heap_alloc _ _ _ (by simp)).trans (heap_alloc_new w9 _)
      have hhA3 : ((w9.alloc (.cells #[.int .i64 1000, .int .i64 1] 24)).alloc (.cells #[.int .i64 1001, .int .i64 1] 24)).drew.heap[(w9.heap.size + 1)]? = some (.cells #[.int .i64 1001, .int .i64 1] 24 (0, 0)) := by have := heap_alloc_new (w9.alloc (.cells #[.int .i64 1000, .int .i64 1] 24)) (.cells #[.int .i64 1001, .int .i64 1] 24); rwa [World.size_alloc] at this
      have HCA2 := Lib.hid (cells_of_heap (xs := [.int .i64 1001, .int .i64 1]) hhA2)
      have HHB2 := Lib.hid hhB2
      have HCA3 := Lib.hid (cells_of_heap (xs := [.int .i64 1001, .int .i64 1]) hhA3)
      have HHB3 := Lib.hid hhB3
      have HAP := Lib.hid hap
      have HOAl := Lib.hid (fun k (hk : ((.slice A7 (N + 1) c7) : Value).ownBlock = some k) => (hOA.lt k hk))
      clear hOA hOB hap hhA2 hhA3 hhB2 hhB3
      go_region_held3 (fun W' => (W'.cell? ⟨(w3.heap.size + 1 + 1), 0, none⟩ = some (.int .i64 1001) ∧ W'.cell? ⟨(w3.heap.size + 1 + 1), 1, none⟩ = some (.int .i64 1)) ∧ (W'.cell? ⟨(w3.heap.size + 1), 0, none⟩ = some (.int .i64 1000) ∧ W'.cell? ⟨(w3.heap.size + 1), 1, none⟩ = some (.int .i64 1)))
        (first | exact HSx.out _ k0.drew | exact HSx.out _ hk1 | exact HSx.out _ hk2 | exact HSx.out _ hk3 | exact HSx.out _ ((k0.alloc k0.size _).drew) | exact HSx.out _ kA | exact HSx.out _ (kA.alloc kA.size _) | exact HSx.out _ kB | go_keep)
        (first
          | (refine step_append_lies _ (by rfl) _ _ _ (by rfl) w4.heap.size 24 ti _ 2 16 Try.underlying32 hi hz0 hz1 hz2 rfl (by omega) _ (N + 1) _ (by rfl) HOA1.out ⟨w9.heap.size, 0, none⟩ 1 1 [.int .i64 1001, .int .i64 1] (by rfl) (by rfl) HCA1.out (by simp [Value.oneCell']) (by omega) (by unfold maxLen; omega) (by omega) hk1.size _ (by rfl) ?_; intro g cap WA hown hgrow hat hgl; have hNA : WA.ownsRow w4.heap.size 24 2 (.slice (some ⟨g, 0, none⟩) ((N + 1) + 1) cap) ((N + 1) + 1) (((cNames N ++ [oneS]) ++ [twoS]).flatMap stC) := (by rw [List.flatMap_append, List.flatMap_singleton, stC_T]; exact hown); have hNB := HOB1.out.kept hgrow HAP.out.kept; have hAP : Apart (.slice (some ⟨g, 0, none⟩) ((N + 1) + 1) cap) (.slice A8 (N + 1) c8) := HAP.out.new HOB1.out (hat.elim (fun e => .inl e.symm) (fun e => .inr (congrArg some e))) (Nat.le_refl _); have kA := hk1.grown hgrow hk1.size (fun j hj => (HOAl.out j hj).1); clear hown hgrow hat hgl)
          | (refine step_append_lies _ (by rfl) _ _ _ (by rfl) w4.heap.size 24 ti _ 2 16 Try.underlying32 hi hz0 hz1 hz2 rfl (by omega) _ (N + 1) _ (by rfl) HOA2.out ⟨w9.heap.size, 0, none⟩ 1 1 [.int .i64 1001, .int .i64 1] (by rfl) (by rfl) HCA2.out (by simp [Value.oneCell']) (by omega) (by unfold maxLen; omega) (by omega) hk2.size _ (by rfl) ?_; intro g cap WA hown hgrow hat hgl; have hNA : WA.ownsRow w4.heap.size 24 2 (.slice (some ⟨g, 0, none⟩) ((N + 1) + 1) cap) ((N + 1) + 1) (((cNames N ++ [oneS]) ++ [twoS]).flatMap stC) := (by rw [List.flatMap_append, List.flatMap_singleton, stC_T]; exact hown); have hNB := HOB2.out.kept hgrow HAP.out.kept; have hAP : Apart (.slice (some ⟨g, 0, none⟩) ((N + 1) + 1) cap) (.slice A8 (N + 1) c8) := HAP.out.new HOB2.out (hat.elim (fun e => .inl e.symm) (fun e => .inr (congrArg some e))) (Nat.le_refl _); have kA := hk2.grown hgrow hk2.size (fun j hj => (HOAl.out j hj).1); have hCB := cells_of_heap (xs := [.int .i64 1000, .int .i64 1]) ((hgrow.block (w9.heap.size + 1) (Array.getElem?_eq_some_iff.1 HHB2.out).1 (fun e => by have := (HOAl.out _ e.symm).2; omega)).trans HHB2.out); clear hown hgrow hat hgl)
          | (refine step_append_lies _ (by rfl) _ _ _ (by rfl) w4.heap.size 24 ti _ 2 16 Try.underlying32 hi hz0 hz1 hz2 rfl (by omega) _ (N + 1) _ (by rfl) HOA3.out ⟨(w9.heap.size + 1), 0, none⟩ 1 1 [.int .i64 1001, .int .i64 1] (by rfl) (by rfl) HCA3.out (by simp [Value.oneCell']) (by omega) (by unfold maxLen; omega) (by omega) hk3.size _ (by rfl) ?_; intro g cap WA hown hgrow hat hgl; have hNA : WA.ownsRow w4.heap.size 24 2 (.slice (some ⟨g, 0, none⟩) ((N + 1) + 1) cap) ((N + 1) + 1) (((cNames N ++ [oneS]) ++ [twoS]).flatMap stC) := (by rw [List.flatMap_append, List.flatMap_singleton, stC_T]; exact hown); have hNB := HOB3.out.kept hgrow HAP.out.kept; have hAP : Apart (.slice (some ⟨g, 0, none⟩) ((N + 1) + 1) cap) (.slice A8 (N + 1) c8) := HAP.out.new HOB3.out (hat.elim (fun e => .inl e.symm) (fun e => .inr (congrArg some e))) (Nat.le_refl _); have kA := hk3.grown hgrow hk3.size (fun j hj => (HOAl.out j hj).1); have hCB := cells_of_heap (xs := [.int .i64 1000, .int .i64 1]) ((hgrow.block w9.heap.size (Array.getElem?_eq_some_iff.1 HHB3.out).1 (fun e => by have := (HOAl.out _ e.symm).2; omega)).trans HHB3.out); clear hown hgrow hat hgl)
          | (refine step_append_lies _ (by rfl) _ _ _ (by rfl) w4.heap.size 24 ti _ 2 16 Try.underlying32 hi hz0 hz1 hz2 rfl (by omega) _ (N + 1) _ (by rfl) (hNB.alloc (.cells #[.int .i64 1000, .int .i64 1] 24)) ⟨WA.heap.size, 0, none⟩ 1 1 [.int .i64 1000, .int .i64 1] (by rfl) (by rfl) (cells_new WA [.int .i64 1000, .int .i64 1] 24) (by simp [Value.oneCell']) (by omega) (by unfold maxLen; omega) (by omega) (kA.alloc kA.size (.cells #[.int .i64 1000, .int .i64 1] 24)).size _ (by rfl) ?_; intro g2 cap2 WB hown2 hgrow2 hat2 hgl2; have hNB2 : WB.ownsRow w4.heap.size 24 2 (.slice (some ⟨g2, 0, none⟩) ((N + 1) + 1) cap2) ((N + 1) + 1) (((cUndo L N ++ [y]) ++ [oneS]).flatMap stC) := (by rw [List.flatMap_append, List.flatMap_singleton, stC_T]; exact hown2); have hNA2 := (hNA.alloc (.cells #[.int .i64 1000, .int .i64 1] 24)).kept hgrow2 hAP.symm.kept; have hAP2 : Apart (.slice (some ⟨g2, 0, none⟩) ((N + 1) + 1) cap2) (.slice (some ⟨g, 0, none⟩) ((N + 1) + 1) cap) := hAP.symm.new hNA (hat2.elim (fun e => .inl e.symm) (fun e => .inr (congrArg some e))) (by rw [World.size_alloc]; exact Nat.le_succ _); have kB := ((kA.alloc kA.size (.cells #[.int .i64 1000, .int .i64 1] 24))).grown hgrow2 (kA.alloc kA.size (.cells #[.int .i64 1000, .int .i64 1] 24)).size (fun j hj => (hNB.lt j hj).1); have hRelN : LaterRel w4 ((N + 1) + 1) ((cNames N ++ [oneS]) ++ [twoS]) ((cUndo L N ++ [y]) ++ [oneS]) (.slice (some ⟨g, 0, none⟩) ((N + 1) + 1) cap) (.slice (some ⟨g2, 0, none⟩) ((N + 1) + 1) cap2) WB := ⟨hNA2, hNB2, hAP2.symm, kB⟩; clear hown2 hgrow2 hat2 hgl2)
          | (refine step_append_lies _ (by rfl) _ _ _ (by rfl) w4.heap.size 24 ti _ 2 16 Try.underlying32 hi hz0 hz1 hz2 rfl (by omega) _ (N + 1) _ (by rfl) hNB ⟨(w9.heap.size + 1), 0, none⟩ 1 1 [.int .i64 1000, .int .i64 1] (by rfl) (by rfl) hCB (by simp [Value.oneCell']) (by omega) (by unfold maxLen; omega) (by omega) kA.size _ (by rfl) ?_; intro g2 cap2 WB hown2 hgrow2 hat2 hgl2; have hNB2 : WB.ownsRow w4.heap.size 24 2 (.slice (some ⟨g2, 0, none⟩) ((N + 1) + 1) cap2) ((N + 1) + 1) (((cUndo L N ++ [y]) ++ [oneS]).flatMap stC) := (by rw [List.flatMap_append, List.flatMap_singleton, stC_T]; exact hown2); have hNA2 := (hNA).kept hgrow2 hAP.symm.kept; have hAP2 : Apart (.slice (some ⟨g2, 0, none⟩) ((N + 1) + 1) cap2) (.slice (some ⟨g, 0, none⟩) ((N + 1) + 1) cap) := hAP.symm.new hNA (hat2.elim (fun e => .inl e.symm) (fun e => .inr (congrArg some e))) (Nat.le_refl _); have kB := (kA).grown hgrow2 kA.size (fun j hj => (hNB.lt j hj).1); have hRelN : LaterRel w4 ((N + 1) + 1) ((cNames N ++ [oneS]) ++ [twoS]) ((cUndo L N ++ [y]) ++ [oneS]) (.slice (some ⟨g, 0, none⟩) ((N + 1) + 1) cap) (.slice (some ⟨g2, 0, none⟩) ((N + 1) + 1) cap2) WB := ⟨hNA2, hNB2, hAP2.symm, kB⟩; clear hown2 hgrow2 hat2 hgl2)
          | (refine step_append_lies _ (by rfl) _ _ _ (by rfl) w4.heap.size 24 ti _ 2 16 Try.underlying32 hi hz0 hz1 hz2 rfl (by omega) _ (N + 1) _ (by rfl) hNB ⟨w9.heap.size, 0, none⟩ 1 1 [.int .i64 1000, .int .i64 1] (by rfl) (by rfl) hCB (by simp [Value.oneCell']) (by omega) (by unfold maxLen; omega) (by omega) kA.size _ (by rfl) ?_; intro g2 cap2 WB hown2 hgrow2 hat2 hgl2; have hNB2 : WB.ownsRow w4.heap.size 24 2 (.slice (some ⟨g2, 0, none⟩) ((N + 1) + 1) cap2) ((N + 1) + 1) (((cUndo L N ++ [y]) ++ [oneS]).flatMap stC) := (by rw [List.flatMap_append, List.flatMap_singleton, stC_T]; exact hown2); have hNA2 := (hNA).kept hgrow2 hAP.symm.kept; have hAP2 : Apart (.slice (some ⟨g2, 0, none⟩) ((N + 1) + 1) cap2) (.slice (some ⟨g, 0, none⟩) ((N + 1) + 1) cap) := hAP.symm.new hNA (hat2.elim (fun e => .inl e.symm) (fun e => .inr (congrArg some e))) (Nat.le_refl _); have kB := (kA).grown hgrow2 kA.size (fun j hj => (hNB.lt j hj).1); have hRelN : LaterRel w4 ((N + 1) + 1) ((cNames N ++ [oneS]) ++ [twoS]) ((cUndo L N ++ [y]) ++ [oneS]) (.slice (some ⟨g, 0, none⟩) ((N + 1) + 1) cap) (.slice (some ⟨g2, 0, none⟩) ((N + 1) + 1) cap2) WB := ⟨hNA2, hNB2, hAP2.symm, kB⟩; clear hown2 hgrow2 hat2 hgl2))
      all_goals (go_wp2_with fail; go_meet; exact hRelN)
    case rest =>
    obtain ⟨hOA, hOB, hap, hbW⟩ := hcut
    obtain ⟨A10, c10, rfl, _, _⟩ := (Rd.of_own hOA).form
    obtain ⟨A11, c11, rfl, _, _⟩ := (Rd.of_own hOB).form
    obtain ⟨w10, rfl⟩ : ∃ w10 : World, w10 = wc := ⟨_, rfl⟩
    have HOA10 := Lib.hid hOA
    have HOB10 := Lib.hid hOB
    have HBW10 := Lib.hid hbW
    clear hOA hOB hap hbW
    go_wp2_with fail
    refine (on_any (cNames N ++ [oneS] ++ [twoS]) (cUndo L N ++ [y] ++ [oneS]) A10 A11 (N + 1 + 1) c10 (N + 1 + 1) c11 w10.heap.size w10 (Rd.of_own HOA10.out) (Rd.of_own HOB10.out) (Nat.le_refl _) (by omega)).mono ?_
    rintro e w11 ⟨v11, Wl, rfl, hO11, hW11, _, hb11⟩
    obtain rfl := later_two (L := L) hN40 HX.out hW11
    have hlen : (X ++ [twoS]).length = X.length + 1 := by simp
    rw [hlen] at hO11
    obtain ⟨A12, c12, rfl, _, _⟩ := (Rd.of_own hO11).form
    clear hlen
    have k11 := HBW10.out.trans (hb11.mono HBW10.out.size)
    have HO11 := Lib.hid hO11
    have HX11 := Lib.hid (own_grows HX4.out k11)
    have HK11 := Lib.hid k11
    clear hO11 hW11 hb11 k11
    go_wp2_with (at_builtin; refine wpList_append_row rfl _ _ 32 rfl w11.heap.size 24 ti _ 2 16 Try.underlying32 hi hz0 hz1 hz2 rfl (by decide) _ 0 [] rfl (World.ownsRow_nil _ _ _ _) _ w2.heap.size X.length (X.flatMap stC) rfl HX11.out (list_one stC_one _) (by unfold maxLen; omega) (by omega) (Nat.le_refl _) ?_)
    intro vc w12 hown12 hgrow12
    have hown12 : w12.ownsRow w11.heap.size 24 2 vc X.length (X.flatMap stC) := by simpa using hown12
    have hb12 : Below w11.heap.size w11 w12 := (Below.refl _ _).grown hgrow12 (Nat.le_refl _) (fun j hj => by simp [Value.ownBlock] at hj)
    obtain ⟨Avc, cvc, rfl, _, _⟩ := (Rd.of_own hown12).form
    have HN12 := Lib.hid hown12
    have HB12 := Lib.hid hb12
    have k12 := HK11.out.trans (hb12.mono HK11.out.size)
    obtain ⟨_, _, ⟨t0, t1⟩⟩ := HBX.out w12 k12
    have h12 := hb12.size
    clear hown12 hgrow12 hb12
    go_wp2_with (at_builtin; refine wpList_append_own_at _ rfl _ _ 32 rfl w11.heap.size 24 ti _ 2 16 Try.underlying32 hi hz0 hz1 hz2 rfl (by decide) _ X.length (X.flatMap stC) rfl (HN12.out.alloc _) ⟨w12.heap.size, 0, none⟩ 1 1 [.int .i64 1001, .int .i64 1] rfl rfl (cells_new w12 [.int .i64 1001, .int .i64 1] 24) (by simp [Value.oneCell']) (by unfold maxLen; omega) (by omega) (by simp; omega) ?_)
    intro vd w13 hown13 hgrow13 _ _
    have hown13 : w13.ownsRow w11.heap.size 24 2 vd (X.length + 1) ((X ++ [twoS]).flatMap stC) := by rw [List.flatMap_append, List.flatMap_singleton, stC_T]; exact hown13
    have hb13 : Below w11.heap.size w11 w13 := (HB12.out.alloc h12 _).grown hgrow13 (by simp; omega) (fun j hj => (HN12.out.lt j hj).1)
    obtain ⟨g13, c13, R13, rfl, _⟩ := own_parts hown13 (Nat.succ_pos _)
    have hrx := (Rd.of_own HO11.out).below' hb13 (Nat.le_refl _)
    have hry := Rd.of_own hown13
    have hsa := sameSt_any (X ++ [twoS]) (X ++ [twoS]) A12 (some ⟨g13, 0, none⟩) (X.length + 1) c12 (X.length + 1) c13 w13.heap.size w13 (hrx.more hb13.size) hry
    rw [decide_eq_true rfl] at hsa
    have HSA := Lib.hid hsa
    have HK13 := Lib.hid (HF4.out.trans ((HK11.out.trans (hb13.mono HK11.out.size)).mono HF4.out.size))
    clear hown13 hgrow13 hb13 hsa hrx hry t0 t1 k12
    go_wp2_with fail
    refine HSA.out.mono ?_
    rintro e w14 ⟨rfl, hg14⟩
    have HFin := Lib.hid (HK13.out.trans (hg14.below.mono HK13.out.size))
    clear hg14
    go_wp2
    go_ret
    exact ⟨rfl, HFin.out⟩
end Go.Proofs.Ytejafcdlkpmemaa
