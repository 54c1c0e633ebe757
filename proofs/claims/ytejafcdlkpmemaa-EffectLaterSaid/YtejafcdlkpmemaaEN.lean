/- The document's Root. -/
import Derived.Test.YtejafcdlkpmemaaEI
namespace Go.Proofs.Ytejafcdlkpmemaa
open Go Go.RowKit
/-- the first place from k on at which a name stands -/
def AtFrom (l : List Head) (x : Stamp) (k : Nat) (at_ : Int) : Prop :=
  (at_ = -1 ∧ ∀ i, (h : i < l.length) → k ≤ i → l[i].nm ≠ x) ∨ ∃ d, ∃ h : d < l.length, k ≤ d ∧ at_ = (d : Int) ∧ l[d].nm = x ∧ ∀ i, (hi : i < d) → k ≤ i → (l[i]'(by omega)).nm ≠ x
theorem AtFrom.start (l : List Head) (x : Stamp) : AtFrom l x l.length (-1) := .inl ⟨rfl, fun i h h' => by omega⟩
theorem AtFrom.hit {l : List Head} {x : Stamp} {j : Nat} (h : j < l.length) (e : l[j].nm = x) : AtFrom l x j (j : Int) := .inr ⟨j, h, Nat.le_refl _, rfl, e, fun i hi h' => by omega⟩
theorem AtFrom.miss {l : List Head} {x : Stamp} {j : Nat} {at_ : Int} (h : j < l.length) (e : l[j].nm ≠ x) (k : AtFrom l x (j + 1) at_) : AtFrom l x j at_ := by
  rcases k with ⟨h1, h2⟩ | ⟨d, hd, h1, h2, h3, h4⟩
  · refine .inl ⟨h1, fun i hi hk => ?_⟩
    by_cases hij : i = j
    · subst hij; exact e
    · exact h2 i hi (by omega)
  · refine .inr ⟨d, hd, by omega, h2, h3, fun i hi hk => ?_⟩
    by_cases hij : i = j
    · subst hij; exact e
    · exact h4 i hi (by omega)
theorem AtFrom.find {l : List Head} {x : Stamp} {at_ : Int} (h : AtFrom l x 0 at_) : (at_ = -1 ∧ hfind l x = none) ∨ ∃ d, ∃ hd : d < l.length, at_ = (d : Int) ∧ hfind l x = some l[d] := by
  unfold hfind
  rcases h with ⟨h1, h2⟩ | ⟨d, hd, h1, h2, h3, h4⟩
  · refine .inl ⟨h1, ?_⟩
    rw [List.find?_eq_none]
    intro g hg e
    obtain ⟨i, hi, rfl⟩ := List.getElem_of_mem hg
    exact h2 i hi (Nat.zero_le _) (by simpa using e)
  · refine .inr ⟨d, hd, h2, ?_⟩
    rw [List.find?_eq_some_iff_getElem]
    refine ⟨by simpa using h3, d, hd, rfl, fun i hi => ?_⟩
    simpa using h4 i hi (Nat.zero_le _)
def RRel2 (l : List Head) (R : Rooted) (Bx Br : Nat) (w : World) (ev i : Value) (wr : World) : Prop :=
  ∃ (k : Nat) (y : Stamp) (e : Bool), k ≤ l.length + 1 ∧ i = .int .i64 k ∧ ev = .bool e ∧ rootGo l zeroS (l.length + 1 - k) y e = R ∧ wr.heap[Bx]? = some (.cells #[.int .i64 y.T, .int .i64 y.R] 24 (0, 0)) ∧ wr.heap[Br]? = some (.cells #[.int .i64 0, .int .i64 0] 24 (0, 0)) ∧ Below w.heap.size w wr
def RRel3 (l : List Head) (y : Stamp) (wo : World) (at_ i : Value) (wr : World) : Prop :=
  ∃ (k : Nat) (v z : Int), k ≤ l.length ∧ i = .int .i64 v ∧ v = (k : Int) - 1 ∧ at_ = .int .i64 z ∧ AtFrom l y k z ∧ ∃ q, wr = wo.drewN q
set_option maxRecDepth 100000 in
set_option maxHeartbeats 8000000 in
theorem rroot_any (l : List Head) (x : Stamp) (A : Option Addr) (n c B : Nat) (w : World) (hR : Rd w B 4 (.slice A n c) n (l.flatMap hdC)) (hB : B ≤ w.heap.size) (hn : n ≤ 100000) :
    Calls Try.prog 31 #[.slice A n c, stV x] w (RootPost l (l.length + 1) x w) := by
  obtain rfl := len_of hdC 4 (fun _ => rfl) (by decide) hR.1
  have HR := Lib.hid hR
  clear hR
  unfold stV
  go_enter Try.func31, Try.ntmps31
  go_wp2
  obtain ⟨w0, hw0⟩ : ∃ W, (w.alloc (.cells #[.int .i64 x.T, .int .i64 x.R] 24)).alloc (.cells #[.int .i64 0, .int .i64 0] 24) = W := ⟨_, rfl⟩
  have hg0 : Grows w w0 := by rw [← hw0]; exact ((Grows.refl w).alloc _).alloc _
  have hx0 : w0.heap[w.heap.size]? = some (.cells #[.int .i64 x.T, .int .i64 x.R] 24 (0, 0)) := by rw [← hw0]; exact (Below.heap_alloc _ _ _ (by simp)).trans (heap_alloc_new w _)
  have hr0 : w0.heap[w.heap.size + 1]? = some (.cells #[.int .i64 0, .int .i64 0] 24 (0, 0)) := by
    rw [← hw0]
    have := heap_alloc_new (w.alloc (.cells #[.int .i64 x.T, .int .i64 x.R] 24)) (.cells #[.int .i64 0, .int .i64 0] 24)
    rwa [World.size_alloc] at this
  rw [hw0]
  obtain ⟨Bx, hBx⟩ : ∃ k, w.heap.size = k := ⟨_, rfl⟩
  obtain ⟨Br, hBr⟩ : ∃ k, w.heap.size + 1 = k := ⟨_, rfl⟩
  rw [hBr] at hr0 ⊢
  rw [hBx] at hx0 ⊢
  have hb0 := hg0.below
  have HBB := Lib.hid (show Bx = w.heap.size ∧ Br = w.heap.size + 1 by omega)
  obtain ⟨R, hRe⟩ : ∃ R, rootGo l zeroS (l.length + 1) x true = R := ⟨_, rfl⟩
  have HRe := Lib.hid hRe
  clear hw0 hg0 hBx hBr hRe
  go_loopw [7, 8] (fun ev i wr => RRel2 l R Bx Br w ev i wr) (fun _ i _ => l.length + 1 - (intOf i).toNat)
  case atStart => exact ⟨0, x, true, Nat.zero_le _, rfl, rfl, HRe.out, hx0, hr0, hb0⟩
  case round =>
    clear hx0 hr0 hb0
    obtain ⟨k, y, e, hk, rfl, rfl, hgo, hxr, hrr, hBw⟩ := hrel
    have HG := Lib.hid hgo
    have HX := Lib.hid hxr
    have HRR := Lib.hid hrr
    have hrl := (Array.getElem?_eq_some_iff.1 hrr).1
    have hxl := (Array.getElem?_eq_some_iff.1 hxr).1
    have hne : Bx ≠ Br := by have := HBB.out; omega
    have e0 : wr.cell? ⟨Bx, 0, none⟩ = some (.int .i64 y.T) := cell_of_row _ _ 0 _ _ _ hxr
    have e1 : wr.cell? ⟨Bx, 1, none⟩ = some (.int .i64 y.R) := cell_of_row _ _ 1 _ _ _ hxr
    have f0 : wr.cell? ⟨Br, 0, none⟩ = some (.int .i64 0) := cell_of_row _ _ 0 _ _ _ hrr
    have f1 : wr.cell? ⟨Br, 1, none⟩ = some (.int .i64 0) := cell_of_row _ _ 1 _ _ _ hrr
    have z0 : ∀ i, wr.frozen? ⟨Bx, i, none⟩ = false := fun i => by simp [World.frozen?, hxr]
    have z1 : ∀ i, wr.frozen? ⟨Br, i, none⟩ = false := fun i => by simp [World.frozen?, hrr]
    clear hgo hxr hrr
    obtain ⟨wo, rfl⟩ : ∃ wo : World, wo = wr := ⟨_, rfl⟩
    by_cases hlt : k < l.length + 1
    · have hki : (k : Int) ≤ (l.length : Int) := by omega
      go_wp2
      go_loopw [9, 10] (fun at_ i wr => RRel3 l y wo at_ i wr) (fun _ i _ => (intOf i + 1).toNat)
      case atStart => exact ⟨l.length, _, _, Nat.le_refl _, rfl, by go_num, rfl, AtFrom.start l y, 0, rfl⟩
      case round =>
        obtain ⟨k', v, z, hk', rfl, hv, rfl, hat, q, rfl⟩ := hrel
        rcases k' with _ | j
        · have hv0 : v < 0 := by omega
          clear hv
          obtain ⟨m, hm⟩ : ∃ m, l.length + 1 - k = m + 1 := ⟨l.length - k, by omega⟩
          rw [hm, rootGo] at HG
          have hbq : Below w.heap.size w (wo.drewN q) := hBw.trans (((Grows.refl wo).drewN q).below.mono hBw.size)
          have HX2 := Lib.hid (show (wo.drewN q).heap[Bx]? = some (.cells #[.int .i64 y.T, .int .i64 y.R] 24 (0, 0)) from HX.out)
          have HRR2 := Lib.hid (show (wo.drewN q).heap[Br]? = some (.cells #[.int .i64 0, .int .i64 0] 24 (0, 0)) from HRR.out)
          have e0' : (wo.drewN q).cell? ⟨Bx, 0, none⟩ = some (.int .i64 y.T) := e0
          have e1' : (wo.drewN q).cell? ⟨Bx, 1, none⟩ = some (.int .i64 y.R) := e1
          have f0' : (wo.drewN q).cell? ⟨Br, 0, none⟩ = some (.int .i64 0) := f0
          have f1' : (wo.drewN q).cell? ⟨Br, 1, none⟩ = some (.int .i64 0) := f1
          have z0' : ∀ i, (wo.drewN q).frozen? ⟨Bx, i, none⟩ = false := z0
          have z1' : ∀ i, (wo.drewN q).frozen? ⟨Br, i, none⟩ = false := z1
          have hrl' : Br < (wo.drewN q).heap.size := hrl
          have hxl' : Bx < (wo.drewN q).heap.size := hxl
          generalize wo.drewN q = W at *
          clear e0 e1 f0 f1 z0 z1 hrl hxl hBw HX HRR
          rcases hat.find with ⟨rfl, hf⟩ | ⟨d, hd, rfl, hf⟩
          · have hG := HG.out
            unfold hfind at hf
            rw [hf] at hG
            simp only at hG
            clear hf HG hat
            have hmn : (-1 : Int) < 0 := by decide
            go_wp2
            have q := HBB.out
            have hh := set2_heap (v := .int .i64 0) (u := .int .i64 0) HRR2.out
            refine bodyPost_ret (results_cell_row2 rfl _ _ Br 24 #[.int .i64 0, .int .i64 0] (0, 0) _ rfl hh Try.underlying24 rfl (by kernel_rfl)) rfl ?_
            unfold RootPost
            rw [HRe.out, ← hG]
            exact ⟨rfl, (hbq.setCell (p := ⟨Br, 0, none⟩) (show w.heap.size ≤ Br by omega) _).setCell (p := ⟨Br, 1, none⟩) (show w.heap.size ≤ Br by omega) _⟩
          · obtain ⟨b, o, rfl, hB', hcell⟩ := rd_at hdC 4 (fun _ => rfl) (by decide) HR.out hd
            have hbl : b < w.heap.size := by omega
            have hbc : ∀ j u, (hdC l[d])[j]? = some u → W.cell? ⟨b, o + d * 4 + j, none⟩ = some u := fun j u hu => (hbq.cell (p := ⟨b, o + d * 4 + j, none⟩) hbl).trans (hcell j u hu)
            have hG := HG.out
            unfold hfind at hf
            rw [hf] at hG
            simp only at hG
            obtain ⟨h, hh⟩ : ∃ h, l[d] = h := ⟨_, rfl⟩
            rw [hh] at hbc hG
            have d2 : W.cell? ⟨b, o + d * 4 + 2, none⟩ = some (.int .i64 h.un.T) := hbc 2 _ rfl
            have d3 : W.cell? ⟨b, o + d * 4 + 3, none⟩ = some (.int .i64 h.un.R) := hbc 3 _ rfl
            have hdn : (0 : Int) ≤ (d : Int) := by omega
            have hdl : (d : Int) < (l.length : Int) := by omega
            have hq := eql24
            have hgd := gd24
            clear hf HG hcell hbc hh hat
            by_cases hz : h.un = zeroS
            · rw [if_pos hz] at hG
              have he : eq2 h.un.T h.un.R 0 0 = true := by rw [hz]; decide
              clear hz
              go_wp2
              have q := HBB.out
              have hh := set2_heap (v := .int .i64 y.T) (u := .int .i64 y.R) HRR2.out
              refine bodyPost_ret (results_cell_row2 rfl _ _ Br 24 #[.int .i64 y.T, .int .i64 y.R] (0, 0) _ rfl hh Try.underlying24 rfl (by kernel_rfl)) rfl ?_
              unfold RootPost
              rw [HRe.out, ← hG]
              exact ⟨rfl, (hbq.setCell (p := ⟨Br, 0, none⟩) (show w.heap.size ≤ Br by omega) _).setCell (p := ⟨Br, 1, none⟩) (show w.heap.size ≤ Br by omega) _⟩
            · rw [if_neg hz] at hG
              have he : eq2 h.un.T h.un.R 0 0 = false := by
                unfold eq2
                by_cases h1 : h.un.T = 0
                · have h2 : h.un.R ≠ 0 := fun h2 => hz (Stamp.ext' h1 h2)
                  simp [h2]
                · simp [h1]
              go_wp2
              have q := HBB.out
              refine ⟨⟨k + 1, h.un, !e, by omega, by go_num, rfl, ?_, set2_heap HX2.out, (set2_other hne.symm).trans HRR2.out, (hbq.setCell (p := ⟨Bx, 0, none⟩) (show w.heap.size ≤ Bx by omega) _).setCell (p := ⟨Bx, 1, none⟩) (show w.heap.size ≤ Bx by omega) _⟩, by simp [intOf]; omega⟩
              rw [show l.length + 1 - (k + 1) = m by omega]; exact hG
        · obtain rfl : v = (j : Int) := by omega
          clear hv
          have hj : j < l.length := by omega
          obtain ⟨b, o, rfl, hB', hcell⟩ := rd_at hdC 4 (fun _ => rfl) (by decide) HR.out hj
          have hbl : b < w.heap.size := by omega
          have hbc : ∀ r u, (hdC l[j])[r]? = some u → wo.cell? ⟨b, o + j * 4 + r, none⟩ = some u := fun r u hu => (hBw.cell (p := ⟨b, o + j * 4 + r, none⟩) hbl).trans (hcell r u hu)
          have HH := Lib.hid (fun h : l[j].nm = y => AtFrom.hit hj h)
          have HMs := Lib.hid (fun h : l[j].nm ≠ y => AtFrom.miss hj h hat)
          obtain ⟨h, hh⟩ : ∃ h, l[j] = h := ⟨_, rfl⟩
          rw [hh] at hbc HH HMs
          have d0 : wo.cell? ⟨b, o + j * 4, none⟩ = some (.int .i64 h.nm.T) := hbc 0 _ rfl
          have d1 : wo.cell? ⟨b, o + j * 4 + 1, none⟩ = some (.int .i64 h.nm.R) := hbc 1 _ rfl
          have i1 : (0 : Int) ≤ (j : Int) := by omega
          have i2 : (j : Int) < (l.length : Int) := by omega
          have hq := eql24
          have hgd := gd24
          have hE := eq2_iff h.nm y
          clear hcell hbc hh hat
          by_cases hy : h.nm = y
          · rw [decide_eq_true hy] at hE
            have HY := Lib.hid hy
            clear hy
            go_wp2
            go_quiet (fail)
            go_wp2
            go_roundw
            case rel => exact ⟨j, _, _, by omega, rfl, by go_num, rfl, HH.out HY.out, q + nq, rfl⟩
            case measure => simp [intOf]
          · rw [decide_eq_false hy] at hE
            have HY := Lib.hid hy
            clear hy
            go_wp2
            go_quiet (fail)
            go_wp2
            go_roundw
            case rel => exact ⟨j, _, z, by omega, rfl, by go_num, rfl, HMs.out HY.out, q + nq, rfl⟩
            case measure => simp [intOf]
    · obtain rfl : k = l.length + 1 := by omega
      have hG := HG.out
      rw [Nat.sub_self, rootGo] at hG
      have hki : (l.length : Int) < (l.length : Int) + 1 := by omega
      go_wp2
      have hh := set2_heap (v := .int .i64 0) (u := .int .i64 0) HRR.out
      have q := HBB.out
      refine bodyPost_ret (results_cell_row2 rfl _ _ Br 24 #[.int .i64 0, .int .i64 0] (0, 0) _ rfl hh Try.underlying24 rfl (by kernel_rfl)) rfl ?_
      unfold RootPost
      rw [HRe.out, ← hG]
      exact ⟨rfl, (hBw.setCell (p := ⟨Br, 0, none⟩) (show w.heap.size ≤ Br by omega) _).setCell (p := ⟨Br, 1, none⟩) (show w.heap.size ≤ Br by omega) _⟩
end Go.Proofs.Ytejafcdlkpmemaa
