/- The document's Live: the nodes, each put where it belongs. -/
import Derived.Test.YtejafcdlkpmemaaB
import Derived.Test.YtejafcdlkpmemaaP
import Derived.Test.YtejafcdlkpmemaaR
import Derived.BigRegion
import Derived.IntWalk
namespace Go.Proofs.Ytejafcdlkpmemaa
open Go Go.RowKit
def liveMem (have_ gone : List Dot) (k : Nat) (y : Id) : Prop := ∃ d ∈ have_.take k, d ∉ gone ∧ d.n = y
def LiveRel (have_ gone : List Dot) (w : World) (out i : Value) (wr : World) : Prop :=
  ∃ k : Nat, k ≤ have_.length ∧ i = .int .i64 k ∧ ∃ L : List Id, wr.ownsRow w.heap.size 26 3 out L.length (L.flatMap idC) ∧ L.Pairwise Id.Lt ∧ (∀ y, y ∈ L ↔ liveMem have_ gone k y) ∧ L.length ≤ k ∧ Below w.heap.size w wr
theorem live_zero (have_ gone : List Dot) (y : Id) : ¬ liveMem have_ gone 0 y := by rintro ⟨d, h, _⟩; simp at h
theorem mem_take_succ {α : Type} {L : List α} {k : Nat} (h : k < L.length) (x : α) : x ∈ L.take (k + 1) ↔ x ∈ L.take k ∨ x = L[k] := by
  rw [List.take_succ_eq_append_getElem h, List.mem_append, List.mem_singleton]
theorem live_no {have_ gone : List Dot} {k : Nat} (h : k < have_.length) (hn : have_[k] ∈ gone) (y : Id) : liveMem have_ gone (k + 1) y ↔ liveMem have_ gone k y := by
  unfold liveMem
  constructor
  · rintro ⟨d, hd, h1, h2⟩
    rcases (mem_take_succ h d).1 hd with hd | rfl
    · exact ⟨d, hd, h1, h2⟩
    · exact absurd hn h1
  · rintro ⟨d, hd, h1, h2⟩
    exact ⟨d, (mem_take_succ h d).2 (.inl hd), h1, h2⟩
theorem live_yes {have_ gone : List Dot} {k : Nat} (h : k < have_.length) (hn : have_[k] ∉ gone) (y : Id) : liveMem have_ gone (k + 1) y ↔ y = have_[k].n ∨ liveMem have_ gone k y := by
  unfold liveMem
  constructor
  · rintro ⟨d, hd, h1, h2⟩
    rcases (mem_take_succ h d).1 hd with hd | rfl
    · exact .inr ⟨d, hd, h1, h2⟩
    · exact .inl h2.symm
  · rintro (rfl | ⟨d, hd, h1, h2⟩)
    · exact ⟨_, (mem_take_succ h _).2 (.inr rfl), hn, rfl⟩
    · exact ⟨d, (mem_take_succ h d).2 (.inl hd), h1, h2⟩
def LivePost (have_ gone : List Dot) (w : World) (e : Ending) (w' : World) : Prop :=
  ∃ (v : Value) (L : List Id), e = .returned v ∧ w'.ownsRow w.heap.size 26 3 v L.length (L.flatMap idC) ∧ L.Pairwise Id.Lt ∧ (∀ y, y ∈ L ↔ liveMem have_ gone have_.length y) ∧ Below w.heap.size w w'
def InRel (L : List Id) (x : Id) (n : Nat) (w : World) (v : Value) (i : Value) (wr : World) : Prop :=
  ∃ P S, L = P ++ S ∧ i = .int .i64 (P.length : Nat) ∧ (∀ y ∈ S, x.Lt y) ∧ wr.ownsRow w.heap.size 26 3 v n ((P ++ x :: S).flatMap idC) ∧ Below w.heap.size w wr
def swapW (w : World) (g j : Nat) (y x : Id) : World :=
  ((((((w.setCell ⟨g, j * 3 + 3, none⟩ (.int .i64 y.s.T)).setCell ⟨g, j * 3 + 3 + 1, none⟩ (.int .i64 y.s.R)).setCell ⟨g, j * 3 + 3 + 2, none⟩ (.int .i64 y.I)).setCell ⟨g, j * 3, none⟩ (.int .i64 x.s.T)).setCell ⟨g, j * 3 + 1, none⟩ (.int .i64 x.s.R)).setCell ⟨g, j * 3 + 2, none⟩ (.int .i64 x.I)).drew
theorem swapW_eq (w : World) (g j : Nat) (y x : Id) : swapW w g j y x = ((w.setCells g (j * 3 + 3) (idC y)).setCells g (j * 3) (idC x)).drew := rfl
theorem own_drew {w : World} {base : Nat} {e : TypeId} {K n : Nat} {v : Value} {xs : List Value} (h : w.ownsRow base e K v n xs) : w.drew.ownsRow base e K v n xs := h
theorem swapW_own {w : World} {base : Nat} {n g cap j : Nat} {P S : List Id} {y x : Id} (hj : P.length = j) (h : w.ownsRow base 26 3 (.slice (some ⟨g, 0, none⟩) n cap) n ((P ++ y :: x :: S).flatMap idC)) (hn : 0 < n) :
    (swapW w g j y x).ownsRow base 26 3 (.slice (some ⟨g, 0, none⟩) n cap) n ((P ++ x :: y :: S).flatMap idC) := by
  have := own_swap (enc := idC) (k := 3) (fun _ => rfl) h hn
  rw [hj] at this
  rw [swapW_eq]
  exact own_drew this
theorem swapW_below {B : Nat} {a w : World} (h : Below B a w) {g : Nat} (hg : B ≤ g) (j : Nat) (y x : Id) : Below B a (swapW w g j y x) := by
  rw [swapW_eq]
  exact (setCells_below (setCells_below h hg _ _) hg _ _).drew
/-- the round's end: the new one stands where it belongs -/
theorem live_step {have_ gone : List Dot} {k n : Nat} {w wr : World} {v : Value} {L P S : List Id} {d : Dot} (hlt : k < have_.length) (hyes : ∀ y, liveMem have_ gone (k + 1) y ↔ y = d.n ∨ liveMem have_ gone k y)
    (hS : L.Pairwise Id.Lt) (hM : ∀ y, y ∈ L ↔ liveMem have_ gone k y) (hL : L.length ≤ k) (hn : L.length + 1 = n) (hni : d.n ∉ L) (hLe : L = P ++ S) (hSl : ∀ y ∈ S, d.n.Lt y) (hP : ∀ z, P.getLast? = some z → ¬ d.n.Lt z)
    (ho : wr.ownsRow w.heap.size 26 3 v n ((P ++ d.n :: S).flatMap idC)) (hb : Below w.heap.size w wr) : LiveRel have_ gone w v (.int .i64 ((k : Int) + 1)) wr := by
  have hlen : (P ++ d.n :: S).length = n := by rw [← hn, hLe]; simp; omega
  refine ⟨k + 1, hlt, by rfl, P ++ d.n :: S, by rw [hlen]; exact ho, ?_, fun y => ?_, by omega, hb⟩
  · exact sorted_put idSTO (hLe ▸ hS) (hLe ▸ hni) hSl hP
  · rw [mem_put, hyes y, ← hLe, hM y]
theorem info26 : (Try.prog.info? 26).map (fun i => (i.zero, i.size, i.bytes)) = some (some (.agg #[.int .i64 0, .int .i64 0, .int .i64 0]), 3, 24) := by kernel_rfl
theorem idC_one (x : Id) : ∀ u ∈ idC x, u.oneCell' = true := by
  intro u hu
  simp [idC] at hu
  rcases hu with rfl | rfl | rfl <;> rfl
theorem list_snoc {α : Type} (P : List α) : P = [] ∨ ∃ P' y, P = P' ++ [y] := by
  rcases List.eq_nil_or_concat P with h | ⟨P', y, h⟩
  · exact .inl h
  · exact .inr ⟨P', y, by simpa using h⟩
set_option maxRecDepth 100000 in
set_option maxHeartbeats 4000000 in
theorem refLive_any (have_ gone : List Dot) (A A' : Option Addr) (n c n' c' B : Nat) (w : World) (hR : Rd w B 5 (.slice A n c) n (have_.flatMap dotC)) (hR' : Rd w B 5 (.slice A' n' c') n' (gone.flatMap dotC)) (hB : B ≤ w.heap.size) (hn : n ≤ 100000) :
    Calls Try.prog 21 #[.slice A n c, .slice A' n' c'] w (LivePost have_ gone w) := by
  obtain ⟨_, hnc, hcm⟩ := hR.len
  unfold maxLen at hcm
  obtain rfl := len_of dotC 5 (fun _ => rfl) (by decide) hR.1
  have HR := Lib.hid hR
  have HR' := Lib.hid hR'
  clear hR hR'
  obtain ⟨i0, hi, hz0, hz1, hz2⟩ := info_parts info26
  go_enter Try.func21, Try.ntmps21
  go_wp2
  go_loopw [5, 6] (fun out i wr => LiveRel have_ gone w out i wr) (fun _ i _ => have_.length - (intOf i).toNat)
  case atStart => exact ⟨0, Nat.zero_le _, rfl, [], World.ownsRow_nil _ _ _ _, List.Pairwise.nil, fun y => by simp [live_zero], Nat.le_refl _, Below.refl _ _⟩
  case round =>
    obtain ⟨k, hk, rfl, L, hO, hS, hM, hL, hb⟩ := hrel
    obtain ⟨Av, cv, rfl, hLc, hcm2⟩ := (Rd.of_own hO).form
    have HO := Lib.hid hO
    have HS := Lib.hid hS
    have HM := Lib.hid hM
    clear hO hS hM
    obtain ⟨wo, rfl⟩ : ∃ wo : World, wo = wr := ⟨_, rfl⟩
    by_cases hlt : k < have_.length
    · obtain ⟨b, o, rfl, hB', hcell⟩ := rd_at dotC 5 (fun _ => rfl) (by decide) HR.out hlt
      have hbl : b < w.heap.size := by omega
      have hbc : ∀ j u, (dotC have_[k])[j]? = some u → wo.cell? ⟨b, o + k * 5 + j, none⟩ = some u := fun j u hu => (hb.cell (p := ⟨b, o + k * 5 + j, none⟩) hbl).trans (hcell j u hu)
      have HNo := Lib.hid (fun h => live_no (gone := gone) hlt h)
      have HYes := Lib.hid (fun h => live_yes (gone := gone) hlt h)
      obtain ⟨d, hd⟩ : ∃ d, have_[k] = d := ⟨_, rfl⟩
      rw [hd] at hbc HNo HYes
      clear hd
      have d0 : wo.cell? ⟨b, o + k * 5, none⟩ = some (.int .i64 d.n.s.T) := hbc 0 _ rfl
      have d1 : wo.cell? ⟨b, o + k * 5 + 1, none⟩ = some (.int .i64 d.n.s.R) := hbc 1 _ rfl
      have d2 : wo.cell? ⟨b, o + k * 5 + 2, none⟩ = some (.int .i64 d.n.I) := hbc 2 _ rfl
      have d3 : wo.cell? ⟨b, o + k * 5 + 3, none⟩ = some (.int .i64 d.b.T) := hbc 3 _ rfl
      have d4 : wo.cell? ⟨b, o + k * 5 + 4, none⟩ = some (.int .i64 d.b.R) := hbc 4 _ rfl
      have hbl2 : b < wo.heap.size := by have := hb.size; omega
      clear hcell hbc
      go_wp2_with fail
      obtain ⟨W1, hW1⟩ : ∃ W, wo.alloc (.cells #[.int .i64 d.n.s.T, .int .i64 d.n.s.R, .int .i64 d.n.I] 26) = W := ⟨_, rfl⟩
      have hg1 : Grows wo W1 := by rw [← hW1]; exact (Grows.refl wo).alloc _
      have hx1 : W1.heap[wo.heap.size]? = some (.cells #[.int .i64 d.n.s.T, .int .i64 d.n.s.R, .int .i64 d.n.I] 26 (0, 0)) := by rw [← hW1]; exact heap_alloc_new wo _
      rw [hW1]
      clear hW1
      have hb1 := hb.trans (hg1.below.mono hb.size)
      refine (hasDot_any gone d A' n' c' B W1 (HR'.out.below' hb1 hB) (Nat.le_trans hB hb1.size)).mono ?_
      rintro e W2 ⟨rfl, hg2⟩
      have hx2 : W2.heap[wo.heap.size]? = some (.cells #[.int .i64 d.n.s.T, .int .i64 d.n.s.R, .int .i64 d.n.I] 26 (0, 0)) := (hg2.below.block _ (Array.getElem?_eq_some_iff.1 hx1).1).trans hx1
      have hb2 := hb1.trans (hg2.below.mono hb1.size)
      have hO2 := Lib.hid (own_grows (own_grows HO.out hg1.below) hg2.below)
      have x0 : W2.cell? ⟨wo.heap.size, 0, none⟩ = some (.int .i64 d.n.s.T) := cell_of_row _ _ 0 _ _ _ hx2
      have x1 : W2.cell? ⟨wo.heap.size, 1, none⟩ = some (.int .i64 d.n.s.R) := cell_of_row _ _ 1 _ _ _ hx2
      have x2 : W2.cell? ⟨wo.heap.size, 2, none⟩ = some (.int .i64 d.n.I) := cell_of_row _ _ 2 _ _ _ hx2
      have hxs : wo.heap.size < W2.heap.size := (Array.getElem?_eq_some_iff.1 hx2).1
      have HX2 := Lib.hid hx2
      clear hx1 hx2 hg1 hg2 hb1 hb HO
      by_cases hgn : d ∈ gone
      · have HG := Lib.hid hgn
        rw [decide_eq_true hgn]
        clear hgn
        go_wp2
        go_roundw
        case rel => exact ⟨k + 1, by omega, by go_num, L, hO2.out, HS.out, fun y => by rw [HNo.out HG.out]; exact HM.out y, by omega, hb2⟩
        case measure => simp [intOf]; omega
      · have HG := Lib.hid hgn
        rw [decide_eq_false hgn]
        clear hgn
        go_wp2_with fail
        refine (hasId_any L d.n _ _ _ W2.heap.size W2 (Rd.of_own hO2.out) (Nat.le_refl _)).mono ?_
        rintro e W3 ⟨rfl, hg3⟩
        have hb3 := hb2.trans (hg3.below.mono hb2.size)
        have hO3 := Lib.hid (own_grows hO2.out hg3.below)
        have hx3 : W3.heap[wo.heap.size]? = some (.cells #[.int .i64 d.n.s.T, .int .i64 d.n.s.R, .int .i64 d.n.I] 26 (0, 0)) := (hg3.below.block _ hxs).trans HX2.out
        have y0 : W3.cell? ⟨wo.heap.size, 0, none⟩ = some (.int .i64 d.n.s.T) := cell_of_row _ _ 0 _ _ _ hx3
        have y1 : W3.cell? ⟨wo.heap.size, 1, none⟩ = some (.int .i64 d.n.s.R) := cell_of_row _ _ 1 _ _ _ hx3
        have y2 : W3.cell? ⟨wo.heap.size, 2, none⟩ = some (.int .i64 d.n.I) := cell_of_row _ _ 2 _ _ _ hx3
        clear hO2 hb2 hg3 hx3 HX2 x0 x1 x2
        by_cases hin : d.n ∈ L
        · have HI := Lib.hid hin
          rw [decide_eq_true hin]
          clear hin
          go_wp2
          go_roundw
          case rel => exact ⟨k + 1, by omega, by go_num, L, hO3.out, HS.out, fun y => by
            rw [HYes.out HG.out, HM.out y]
            constructor
            · exact .inr
            · rintro (rfl | h)
              · exact (HM.out _).1 HI.out
              · exact h, by omega, hb3⟩
          case measure => simp [intOf]; omega
        · have HI := Lib.hid hin
          rw [decide_eq_false hin]
          clear hin
          go_wp2_with (at_builtin; refine wpList_append_own _ rfl _ _ 29 rfl w.heap.size 26 i0 _ 3 24 Try.underlying29 hi hz0 hz1 hz2 rfl (by decide) _ _ _ rfl (hO3.out.alloc _) ⟨W3.heap.size, 0, none⟩ 1 1 (idC d.n) rfl rfl ?qc2 (idC_one d.n) ?qc4 ?qc5 ?qc6 ?_)
          case qc2 => exact cells_new W3 (idC d.n) 26
          case qc4 => unfold maxLen; omega
          case qc5 => omega
          case qc6 => have := hb3.size; simp; omega
          intro v' W4 hown hgrow _
          obtain ⟨g, cap, rfl, hgB, hgc, hgm, ho4⟩ := own_snoc hown
          have hb4 : Below w.heap.size w W4 := (hb3.alloc hb3.size _).grown hgrow (by have := hb3.size; simp; omega) (fun j hj => by
            rcases (hO3.out).lt j hj with ⟨h1, _⟩
            exact h1)
          clear hown
          obtain ⟨n1, hn1⟩ : ∃ n1, L.length + 1 = n1 := ⟨_, rfl⟩
          have hn1L : L.length < n1 := by omega
          have hn1k : n1 ≤ k + 1 := by omega
          rw [hn1] at ho4 hgc ⊢
          have HN1 := Lib.hid hn1
          have HO4 := Lib.hid ho4
          unfold maxLen at hgm
          clear hgrow ho4 hO3 hb3 hn1 y0 y1 y2 d0 d1 d2 d3 d4
          go_wp2
          go_loopw [8] (fun i wr => InRel L d.n n1 w (.slice (some ⟨g, 0, none⟩) n1 cap) i wr) (fun i _ => (intOf i).toNat)
          case atStart => exact ⟨L, [], by simp, by have := HN1.out; congr 1; omega, by simp, HO4.out, hb4⟩
          case round =>
            obtain ⟨P, S, hLe, rfl, hSlt, hOr, hbr⟩ := hrel
            have HLe := Lib.hid hLe
            have HSl := Lib.hid hSlt
            have HOr := Lib.hid hOr
            have hgl : g < wr.heap.size := (hOr.lt g rfl).2
            clear hLe hSlt hOr hb4 HO4
            rcases list_snoc P with rfl | ⟨P', y, rfl⟩
            · go_wp2
              go_quiet (fail)
              go_wp2
              exact ⟨live_step hlt (HYes.out HG.out) HS.out HM.out hL HN1.out HI.out HLe.out HSl.out (by simp) (own_grows HOr.out ((Grows.refl wr).drewN nq).below) (hbr.trans (((Grows.refl wr).drewN nq).below.mono hbr.size)), by simp [intOf]; omega⟩
            · obtain ⟨j, hj⟩ : ∃ j, P'.length = j := ⟨_, rfl⟩
              have hkj : ((P' ++ [y]).length : Int) = (j : Int) + 1 := by rw [List.length_append, hj]; rfl
              rw [hkj]
              have hM : (P' ++ [y]) ++ d.n :: S = P' ++ y :: d.n :: S := by simp
              rw [hM] at HOr
              have hjl : j + 1 < n1 := by have := congrArg List.length HLe.out; simp at this; omega
              have cy : ∀ r u, (idC y)[r]? = some u → wr.cell? ⟨g, j * 3 + r, none⟩ = some u := fun r u hu => (own_cell HOr.out _ u (hj ▸ flat_mid idC 3 (fun _ => rfl) P' (d.n :: S) y r u hu)).1
              have cx : ∀ r u, (idC d.n)[r]? = some u → wr.cell? ⟨g, (j + 1) * 3 + r, none⟩ = some u := fun r u hu => (own_cell HOr.out _ u (by
                have := flat_mid idC 3 (fun _ => rfl) (P' ++ [y]) S d.n r u hu
                rw [List.length_append, hj] at this
                simpa using this)).1
              have hk3 : (j + 1) * 3 = j * 3 + 3 := by omega
              rw [hk3] at cx
              have HJ := Lib.hid hj
              have HC := Lib.hid (fun w => rcmpId_any d.n y w)
              unfold idV at HC
              have a0 : ∀ n os, (Sort.grow (wr.drewN n) os).cell? ⟨g, j * 3, none⟩ = some (.int .i64 y.s.T) := fun n os => cell_grown hgl (cy 0 _ rfl) n os
              have a1 : ∀ n os, (Sort.grow (wr.drewN n) os).cell? ⟨g, j * 3 + 1, none⟩ = some (.int .i64 y.s.R) := fun n os => cell_grown hgl (cy 1 _ rfl) n os
              have a2 : ∀ n os, (Sort.grow (wr.drewN n) os).cell? ⟨g, j * 3 + 2, none⟩ = some (.int .i64 y.I) := fun n os => cell_grown hgl (cy 2 _ rfl) n os
              have b0 : ∀ n os, (Sort.grow (wr.drewN n) os).cell? ⟨g, j * 3 + 3, none⟩ = some (.int .i64 d.n.s.T) := fun n os => cell_grown hgl (cx 0 _ rfl) n os
              have b1 : ∀ n os, (Sort.grow (wr.drewN n) os).cell? ⟨g, j * 3 + 4, none⟩ = some (.int .i64 d.n.s.R) := fun n os => cell_grown hgl (cx 1 _ rfl) n os
              have b2 : ∀ n os, (Sort.grow (wr.drewN n) os).cell? ⟨g, j * 3 + 5, none⟩ = some (.int .i64 d.n.I) := fun n os => cell_grown hgl (cx 2 _ rfl) n os
              have i1 : (0 : Int) ≤ (j : Int) + 1 := by omega
              have i2 : (j : Int) + 1 < (n1 : Int) := by omega
              have i3 : (0 : Int) ≤ (j : Int) := by omega
              have i4 : (j : Int) < (n1 : Int) := by omega
              clear hj hkj hM cx cy
              by_cases hc : d.n.cmp y < 0
              · have HCn := Lib.hid hc
                generalize d.n.cmp y = cc at HC hc
                have hw : IntKind.i64.wrap (j : Int) = j := IntWalk.i64_in _ (by omega)
                go_wp2
                refine region_grown (by kernel_rfl) (by kernel_rfl) ?_
                repeat (quiet_step ((go_at_call 51; exact grown_of_grows (HC.out _))))
                refine wpQuiet_nil ?_
                rintro W ⟨⟨nq, osq⟩, hW⟩
                have hgW : Grows wr W := ⟨nq, osq, hW⟩
                have hbW := hbr.trans (hgW.below.mono hbr.size)
                have hoW := own_grows HOr.out hgW.below
                have A0 : W.cell? ⟨g, j * 3, none⟩ = some (.int .i64 y.s.T) := hW ▸ a0 nq osq
                have A1 : W.cell? ⟨g, j * 3 + 1, none⟩ = some (.int .i64 y.s.R) := hW ▸ a1 nq osq
                have A2 : W.cell? ⟨g, j * 3 + 2, none⟩ = some (.int .i64 y.I) := hW ▸ a2 nq osq
                have B0 : W.cell? ⟨g, j * 3 + 3, none⟩ = some (.int .i64 d.n.s.T) := hW ▸ b0 nq osq
                have B1 : W.cell? ⟨g, j * 3 + 4, none⟩ = some (.int .i64 d.n.s.R) := hW ▸ b1 nq osq
                have B2 : W.cell? ⟨g, j * 3 + 5, none⟩ = some (.int .i64 d.n.I) := hW ▸ b2 nq osq
                have hfz : ∀ i, W.frozen? ⟨g, i, none⟩ = false := own_frozen hoW (by omega)
                have HOW := Lib.hid hoW
                clear hW hgW hbr hoW a0 a1 a2 b0 b1 b2
                go_wp2
                go_region
                have HSW := Lib.hid (swapW_own HJ.out HOW.out (by omega))
                have HBW := Lib.hid (swapW_below hbW hgB j y d.n)
                change Exit.inBlock _ _ _ _ (swapW W g j y d.n)
                generalize swapW W g j y d.n = W5 at *
                clear A0 A1 A2 B0 B1 B2 hfz HOW hbW
                go_wp2
                go_roundw
                case rel =>
                  refine ⟨P', y :: S, ?_, ?_, ?_, ?_, ?_⟩
                  · rw [HLe.out]; simp
                  · rw [HJ.out]
                  · intro z hz
                    rcases List.mem_cons.1 hz with rfl | hz
                    · exact (icmp_id_neg _ _).1 HCn.out
                    · exact HSl.out z hz
                  · exact HSW.out
                  · exact HBW.out
                case measure => simp [intOf]
              · have HCn := Lib.hid hc
                generalize d.n.cmp y = cc at HC hc
                have hw : IntKind.i64.wrap (j : Int) = j := IntWalk.i64_in _ (by omega)
                go_wp2
                refine region_grown (by kernel_rfl) (by kernel_rfl) ?_
                repeat (quiet_step ((go_at_call 51; exact grown_of_grows (HC.out _))))
                refine wpQuiet_nil ?_
                rintro W ⟨⟨nq, osq⟩, hW⟩
                have hgW : Grows wr W := ⟨nq, osq, hW⟩
                have hbW := hbr.trans (hgW.below.mono hbr.size)
                have HOW := Lib.hid (own_grows HOr.out hgW.below)
                clear hW hgW hbr a0 a1 a2 b0 b1 b2
                go_wp2
                exact ⟨live_step (P := P' ++ [y]) (S := S) hlt (HYes.out HG.out) HS.out HM.out hL HN1.out HI.out HLe.out HSl.out (by
                  intro z hz
                  have : y = z := by simpa using hz
                  subst this
                  intro h
                  have h1 := HCn.out
                  have h2 := (icmp_id_neg _ _).2 h
                  omega) (by simpa using HOW.out) hbW, by simp [intOf]; omega⟩
    · have hke : k = have_.length := by omega
      subst hke
      go_wp2
      go_ret
      exact ⟨_, L, rfl, HO.out, HS.out, HM.out, hb⟩
end Go.Proofs.Ytejafcdlkpmemaa
