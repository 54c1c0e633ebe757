/- The program's Root: what a group undoes in the end. -/
import Derived.Test.YtejafcdlkpmemaaEB
import Derived.Test.YtejafcdlkpmemaaEG
import Derived.Test.YtejafcdlkpmemaaEP4
namespace Go.Proofs.Ytejafcdlkpmemaa
open Go Go.RowKit Go.Maps Go.Shelf
def rootR : Rooted → Stamp × Bool × Int
  | .root x e => (x, e, 0)
  | .gone => (zeroS, false, 111)
  | .long => (zeroS, false, 11)
def RootPost (l : List Head) (n : Nat) (x : Stamp) (w : World) (e : Ending) (w' : World) : Prop :=
  e = .returned (.tuple #[stV (rootR (rootGo l zeroS n x true)).1, .bool (rootR (rootGo l zeroS n x true)).2.1, .int .i64 (rootR (rootGo l zeroS n x true)).2.2]) ∧ Below w.heap.size w w'
theorem headsOf_find {l H : List Head} (h : HeadsOf l H) (s : Stamp) : H.find? (fun g => decide (g.nm = s)) = l.find? (fun g => decide (g.nm = s)) := by
  cases e : l.find? (fun g => decide (g.nm = s)) with
  | some y =>
    have hy : y.nm = s := by have := List.find?_some e; simpa using this
    have hf : First l y := by unfold First; rw [hy]; exact e
    have := ((rises_unlike h.1).first y).2 ((h.2 y).2 hf)
    unfold First at this
    rw [hy] at this
    exact this
  | none =>
    rw [List.find?_eq_none] at e ⊢
    intro g hg
    exact e g (first_mem ((h.2 g).1 hg))
theorem rootGo_congr {l m : List Head} (h : ∀ s, l.find? (fun g => decide (g.nm = s)) = m.find? (fun g => decide (g.nm = s))) (z : Stamp) : ∀ (n : Nat) (x : Stamp) (e : Bool), rootGo l z n x e = rootGo m z n x e
  | 0, _, _ => rfl
  | n + 1, x, e => by
    rw [rootGo, rootGo, h x]
    cases m.find? (fun g => decide (g.nm = x)) with
    | none => rfl
    | some g => simp only [rootGo_congr h z n]
theorem hdV_inj {a b : Head} (h : hdV a = hdV b) : a = b := by
  obtain ⟨⟨a1, a2, _, _⟩, ⟨a3, a4, _, _⟩⟩ := a
  obtain ⟨⟨b1, b2, _, _⟩, ⟨b3, b4, _, _⟩⟩ := b
  simpa [hdV, and_assoc] using h
def hfind (H : List Head) (s : Stamp) : Option Head := H.find? (fun g => decide (g.nm = s))
theorem hfind_snoc {H : List Head} (h : H.Pairwise (fun x y => x.nm.Lt y.nm)) {k : Nat} (hk : k < H.length) (s : Stamp) : hfind (H.take (k + 1)) s = if s = H[k].nm then some H[k] else hfind (H.take k) s := by
  unfold hfind
  rw [List.take_succ_eq_append_getElem hk, List.find?_append]
  by_cases e : s = H[k].nm
  · rw [if_pos e]
    have : (H.take k).find? (fun g => decide (g.nm = s)) = none := by
      rw [List.find?_eq_none]
      intro g hg e1
      have e1 : g.nm = s := by simpa using e1
      obtain ⟨i, hi, rfl⟩ := List.getElem_of_mem hg
      rw [List.length_take] at hi
      rw [List.getElem_take] at e1
      have := List.pairwise_iff_getElem.1 h i k (by omega) hk (by omega)
      rw [e1, e] at this
      exact stampSTO.irrefl _ this
    rw [this]
    simp [e]
  · rw [if_neg e]
    cases (H.take k).find? (fun g => decide (g.nm = s)) with
    | some y => rfl
    | none => simp [Ne.symm e]
def RootRel1 (H : List Head) (bm : Nat) (w1 : World) (i : Value) (wr : World) : Prop :=
  ∃ k : Nat, k ≤ H.length ∧ i = .int .i64 k ∧ ∃ D : DataW Head, wr.ownsMap Try.prog 24 (objElem hdV) bm k D ∧ FMap stK (hfind (H.take k)) D ∧ Below w1.heap.size w1 wr
theorem results_cell_row2 {P : Program} {fn : Func} {p u v : Tmp} {ty : TypeId} (h : fn.results = #[.cell p ty, .tmp u, .tmp v]) (tmps : Array Value) (w : World) (g : Nat) (t : TypeId) (cs : Array Value) (fr : Nat × Nat) (d : TypeDesc)
    (hp : tmps.getD p undef = .pointer (some ⟨g, 0, none⟩)) (hg : w.heap[g]? = some (.cells cs t fr))
    (hu : P.underlying ty = some d) (hd : (match d with | .struct _ | .array _ _ => true | _ => false) = true) (hi : (P.info? ty).map (·.size) = some cs.size) :
    (results fn tmps).run P w = .ok (.tuple #[.agg cs, tmps.getD u undef, tmps.getD v undef]) w := by
  have hp' : tmps[p]?.getD undef = .pointer (some ⟨g, 0, none⟩) := by simpa using hp
  simp [results, h, hp', asAddr, run_loadVar_row w g t ty cs fr d hg hu hd hi, Result.andThen]
theorem set2_heap {w : World} {g : Nat} {a b v u : Value} {t : TypeId} {fr : Nat × Nat} (h : w.heap[g]? = some (.cells #[a, b] t fr)) : ((w.setCell ⟨g, 0, none⟩ v).setCell ⟨g, 1, none⟩ u).heap[g]? = some (.cells #[v, u] t fr) := by
  simp [World.setCell, Array.getElem?_modify, h]
theorem set2_other {w : World} {g k : Nat} {v u : Value} (h : k ≠ g) : ((w.setCell ⟨g, 0, none⟩ v).setCell ⟨g, 1, none⟩ u).heap[k]? = w.heap[k]? := by
  rw [Below.heap_setCell _ _ _ _ h, Below.heap_setCell _ _ _ _ h]
def RootRel2 (H : List Head) (N : Nat) (R : Rooted) (Bx Br bm : Nat) (D : DataW Head) (w : World) (ev i : Value) (wr : World) : Prop :=
  ∃ (k : Nat) (y : Stamp) (e : Bool), k ≤ N + 1 ∧ i = .int .i64 k ∧ ev = .bool e ∧ rootGo H zeroS (N + 1 - k) y e = R ∧ wr.heap[Bx]? = some (.cells #[.int .i64 y.T, .int .i64 y.R] 24 (0, 0)) ∧ wr.heap[Br]? = some (.cells #[.int .i64 0, .int .i64 0] 24 (0, 0)) ∧
    wr.ownsMap Try.prog 24 (objElem hdV) bm H.length D ∧ Below w.heap.size w wr ∧ Br < wr.heap.size
set_option maxRecDepth 100000 in
set_option maxHeartbeats 4000000 in
theorem root_any (a b : List Stamp) (x : Stamp) (A A' : Option Addr) (n c n' c' B : Nat) (w : World) (hR : Rd w B 2 (.slice A n c) n (a.flatMap stC)) (hR' : Rd w B 2 (.slice A' n' c') n' (b.flatMap stC)) (hB : B ≤ w.heap.size) (hn : n ≤ 100000) :
    Calls Try.prog 30 #[.slice A n c, .slice A' n' c', stV x] w (RootPost (zipH a b) (min a.length b.length + 1) x w) := by
  obtain rfl := len_of stC 2 (fun _ => rfl) (by decide) hR.1
  obtain rfl := len_of stC 2 (fun _ => rfl) (by decide) hR'.1
  have HH1 := Lib.hid (fun W (hb : Below w.heap.size w W) => heads_any a b A A' _ c _ c' B W (hR.below' hb hB) (hR'.below' hb hB) (Nat.le_trans hB hb.size) hn)
  clear hR hR'
  have hmm := @run_makeMap Try.prog
  unfold stV
  go_enter Try.func30, Try.ntmps30
  go_wp2_with fail
  obtain ⟨w0, hw0⟩ : ∃ W, (w.alloc (.cells #[.int .i64 x.T, .int .i64 x.R] 24)).alloc (.cells #[.int .i64 0, .int .i64 0] 24) = W := ⟨_, rfl⟩
  have hg0 : Grows w w0 := by rw [← hw0]; exact ((Grows.refl w).alloc _).alloc _
  have hs0 : w0.heap.size = w.heap.size + 2 := by rw [← hw0]; simp
  have hx0 : w0.heap[w.heap.size]? = some (.cells #[.int .i64 x.T, .int .i64 x.R] 24 (0, 0)) := by rw [← hw0]; exact (Below.heap_alloc _ _ _ (by simp)).trans (heap_alloc_new w _)
  have hr0 : w0.heap[w.heap.size + 1]? = some (.cells #[.int .i64 0, .int .i64 0] 24 (0, 0)) := by
    rw [← hw0]
    have := heap_alloc_new (w.alloc (.cells #[.int .i64 x.T, .int .i64 x.R] 24)) (.cells #[.int .i64 0, .int .i64 0] 24)
    rwa [World.size_alloc] at this
  rw [hw0]
  obtain ⟨Bx, hBx⟩ : ∃ k, w.heap.size = k := ⟨_, rfl⟩
  obtain ⟨Br, hBr⟩ : ∃ k, w.heap.size + 1 = k := ⟨_, rfl⟩
  rw [hBr] at hr0 ⊢
  rw [hBx] at hx0 ⊢
  have hb0 := hg0.below
  have HBB := Lib.hid (show w0.heap.size = w.heap.size + 2 ∧ Bx = w.heap.size ∧ Br = w.heap.size + 1 by omega)
  clear hw0 hg0 hBx hBr hs0
  refine (HH1.out _ hb0).mono ?_
  rintro e w1 ⟨v, H, rfl, hO, hS, hM, hl, hb⟩
  obtain ⟨A1, c1, rfl, _, hcm⟩ := (Rd.of_own hO).form
  have HO := Lib.hid hO
  have HS := Lib.hid hS
  have HF := Lib.hid (fun s => headsOf_find (l := zipH a b) (H := H) ⟨hS, hM⟩ s)
  have hx1 := Lib.hid ((hb.block Bx (by have := HBB.out; omega)).trans hx0)
  have hr1 := Lib.hid ((hb.block Br (by have := HBB.out; omega)).trans hr0)
  have HB1 := Lib.hid (hb0.trans (hb.mono hb0.size))
  have hsz1 := hb.size
  clear hO hS hM hb hx0 hr0 hb0 HH1 hcm
  go_wp2
  obtain ⟨bm, hbm⟩ : ∃ k, w1.heap.size = k := ⟨_, rfl⟩
  have hM2 := World.ownsMap_made (H := Head) w1 Try.prog 24 (objElem hdV)
  have hb2 := ((Grows.refl w1).alloc (.map #[] 0)).below
  rw [hbm] at hM2 ⊢
  generalize w1.alloc (.map #[] 0) = w2 at *
  have HBm := Lib.hid hbm
  clear hbm hmm
  go_loopw [21] (fun i wr => RootRel1 H bm w1 i wr) (fun i _ => H.length - (intOf i).toNat)
  case atStart => exact ⟨0, Nat.zero_le _, rfl, _, hM2, FMap.start stK, hb2⟩
  case round =>
    clear hM2 hb2
    obtain ⟨k, hk, rfl, D, hM, hF, hb⟩ := hrel
    have HM := Lib.hid hM
    have HFm := Lib.hid hF
    clear hM hF
    obtain ⟨wo, rfl⟩ : ∃ wo : World, wo = wr := ⟨_, rfl⟩
    by_cases hlt : k < H.length
    · obtain ⟨bb, o, rfl, hB', hcell⟩ := rd_at hdC 4 (fun _ => rfl) (by decide) (Rd.of_own HO.out) hlt
      have hsn := hfind_snoc HS.out hlt
      obtain ⟨y, hy⟩ : ∃ y, H[k] = y := ⟨_, rfl⟩
      rw [hy] at hcell hsn
      have HSN := Lib.hid hsn
      have hbc : ∀ j u, (hdC y)[j]? = some u → wo.cell? ⟨bb, o + k * 4 + j, none⟩ = some u := fun j u hu => (hb.cell (p := ⟨bb, o + k * 4 + j, none⟩) hB').trans (hcell j u hu)
      have c0 := hbc 0 _ rfl
      have c1 := hbc 1 _ rfl
      have c2 := hbc 2 _ rfl
      have c3 := hbc 3 _ rfl
      simp only [Nat.add_zero] at c0
      clear hbc hcell hy hsn
      have i1 : (0 : Int) ≤ (k : Int) := by omega
      have i2 : (k : Int) < (H.length : Int) := by omega
      go_wp2_with (at_mapUpdate; refine wpList_mapUpdate_own _ rfl _ _ _ 93 rfl 24 95 keyed24 Try.underlying93 (objElem hdV) bm k D rfl (HM.out.alloc _) (by unfold maxLen; omega) (stV y.nm) (hdV y) (stK y.nm) rfl rfl (key24 y.nm) (.held y) [] (objElem_mk hdV_inj y) ?_; intro w3 hown3 hgrow3)
      have hb3 : Below w1.heap.size w1 w3 := (hb.alloc hb.size _).grown hgrow3 (by have := hb.size; simp; omega) (fun j hj => by cases hj; have := HBm.out; omega)
      have HO3 := Lib.hid hown3
      clear hown3 hgrow3 c0 c1 c2 c3
      go_wp2
      go_roundw
      case rel => exact ⟨k + 1, by omega, by go_num, _, HO3.out, (HFm.out.put ok24 HM.out.isMap y.nm y).congr (fun s => (HSN.out s).symm), hb3⟩
      case measure => simp [intOf]; omega
    · obtain rfl : k = H.length := by omega
      rw [List.take_length] at HFm
      have hq := eql24
      have hgd := gd24
      go_wp2
      have hmin : (min (a.length : Int) (b.length : Int)) = ((min a.length b.length : Nat) : Int) := by omega
      obtain ⟨N, hN⟩ : ∃ N, min a.length b.length = N := ⟨_, rfl⟩
      rw [hmin, hN]
      have hNa : N ≤ a.length := by omega
      have hR0 := rootGo_congr HF.out zeroS (N + 1) x true
      obtain ⟨R, hRe⟩ : ∃ R, rootGo (zipH a b) zeroS (N + 1) x true = R := ⟨_, rfl⟩
      rw [hRe] at hR0
      have HRe := Lib.hid hRe
      have HR0 := Lib.hid hR0
      have hBw := HB1.out.trans (hb.mono HB1.out.size)
      have hBxl : Bx < w1.heap.size := by have := HBB.out; omega
      have hBrl : Br < w1.heap.size := by have := HBB.out; omega
      have hx2 := (hb.block Bx hBxl).trans hx1.out
      have hr2 := (hb.block Br hBrl).trans hr1.out
      have hrl := (Array.getElem?_eq_some_iff.1 hr2).1
      have HN := Lib.hid hN
      clear hmin hN hR0 hRe
      go_loopw [7, 36] (fun ev i wr => RootRel2 H N R Bx Br bm D w ev i wr) (fun _ i _ => N + 1 - (intOf i).toNat)
      case atStart => exact ⟨0, x, true, Nat.zero_le _, rfl, rfl, HR0.out, hx2, hr2, HM.out, hBw, hrl⟩
      case round =>
        clear hx2 hr2 hBw hb hrl
        obtain ⟨k, y, e, hk, rfl, rfl, hgo, hxr, hrr, hM, hBw, hrl⟩ := hrel
        have HG := Lib.hid hgo
        have HX := Lib.hid hxr
        have HRR := Lib.hid hrr
        have HM3 := Lib.hid hM
        have hne : Bx ≠ Br := by have := HBB.out; omega
        have e0 : wr.cell? ⟨Bx, 0, none⟩ = some (.int .i64 y.T) := cell_of_row _ _ 0 _ _ _ hxr
        have e1 : wr.cell? ⟨Bx, 1, none⟩ = some (.int .i64 y.R) := cell_of_row _ _ 1 _ _ _ hxr
        have f0 : wr.cell? ⟨Br, 0, none⟩ = some (.int .i64 0) := cell_of_row _ _ 0 _ _ _ hrr
        have f1 : wr.cell? ⟨Br, 1, none⟩ = some (.int .i64 0) := cell_of_row _ _ 1 _ _ _ hrr
        have hlk := obj_look_ok ok24 hdV_inj hM Try.underlying93 ⟨zeroS, zeroS⟩ (Try.zeroValue95 _) HFm.out y
        unfold stV at hlk
        have z0 : ∀ i, wr.frozen? ⟨Bx, i, none⟩ = false := fun i => by simp [World.frozen?, hxr]
        have z1 : ∀ i, wr.frozen? ⟨Br, i, none⟩ = false := fun i => by simp [World.frozen?, hrr]
        have hBxs : Bx < wr.heap.size := (Array.getElem?_eq_some_iff.1 hxr).1
        clear hgo hxr hrr hM
        by_cases hlt : k < N + 1
        · obtain ⟨m, hm⟩ : ∃ m, N + 1 - k = m + 1 := ⟨N - k, by omega⟩
          rw [hm, rootGo] at HG
          cases hf : hfind H y with
          | none =>
            have hG := HG.out
            unfold hfind at hf
            rw [hf] at hG
            rw [show hfind H y = none from hf] at hlk
            simp only [Option.isSome_none, Option.getD_none] at hlk
            unfold hdV at hlk
            simp only at hG
            clear hf HG
            go_wp2
            have q := HBB.out
            have hh := (Below.heap_alloc _ (.cells #[.int .i64 zeroS.T, .int .i64 zeroS.R, .int .i64 zeroS.T, .int .i64 zeroS.R] 95) Br (by simpa [World.setCell] using hrl)).trans (set2_heap (v := .int .i64 0) (u := .int .i64 0) HRR.out)
            refine bodyPost_ret (results_cell_row2 rfl _ _ Br 24 #[.int .i64 0, .int .i64 0] (0, 0) _ rfl hh Try.underlying24 rfl (by kernel_rfl)) rfl ?_
            unfold RootPost
            rw [HRe.out, ← hG]
            exact ⟨rfl, ((hBw.setCell (p := ⟨Br, 0, none⟩) (show w.heap.size ≤ Br by omega) _).setCell (p := ⟨Br, 1, none⟩) (show w.heap.size ≤ Br by omega) _).alloc (by have := hBw.size; simpa [World.setCell] using this) _⟩
          | some h =>
            have hG := HG.out
            unfold hfind at hf
            rw [hf] at hG
            rw [show hfind H y = some h from hf] at hlk
            simp only [Option.isSome_some, Option.getD_some] at hlk
            unfold hdV at hlk
            simp only at hG
            clear hf HG
            by_cases hz : h.un = zeroS
            · rw [if_pos hz] at hG
              have he : eq2 h.un.T h.un.R 0 0 = true := by rw [hz]; decide
              clear hz
              go_wp2
              have q := HBB.out
              have hh := (Below.heap_alloc _ (.cells #[.int .i64 h.nm.T, .int .i64 h.nm.R, .int .i64 h.un.T, .int .i64 h.un.R] 95) Br (by simpa [World.setCell] using hrl)).trans (set2_heap (v := .int .i64 y.T) (u := .int .i64 y.R) HRR.out)
              refine bodyPost_ret (results_cell_row2 rfl _ _ Br 24 #[.int .i64 y.T, .int .i64 y.R] (0, 0) _ rfl hh Try.underlying24 rfl (by kernel_rfl)) rfl ?_
              unfold RootPost
              rw [HRe.out, ← hG]
              exact ⟨rfl, ((hBw.setCell (p := ⟨Br, 0, none⟩) (show w.heap.size ≤ Br by omega) _).setCell (p := ⟨Br, 1, none⟩) (show w.heap.size ≤ Br by omega) _).alloc (by have := hBw.size; simpa [World.setCell] using this) _⟩
            · rw [if_neg hz] at hG
              have he : eq2 h.un.T h.un.R 0 0 = false := by
                unfold eq2
                by_cases h1 : h.un.T = 0
                · have h2 : h.un.R ≠ 0 := fun h2 => hz (Stamp.ext' h1 h2)
                  simp [h2]
                · simp [h1]
              go_wp2
              have q := HBB.out
              refine ⟨⟨k + 1, h.un, !e, by omega, by go_num, rfl, ?_, ?_, ?_, ?_, ?_, ?_⟩, by simp [intOf]; omega⟩
              · rw [show N + 1 - (k + 1) = m by omega]; exact hG
              · exact (Below.heap_alloc _ _ Bx (by simpa [World.setCell] using hBxs)).trans (set2_heap HX.out)
              · exact (Below.heap_alloc _ _ Br (by simpa [World.setCell] using hrl)).trans ((set2_other hne.symm).trans HRR.out)
              · exact (((HM3.out.setCell (a := ⟨Bx, 0, none⟩) (by have := HBm.out; simp; omega) _).setCell (a := ⟨Bx, 1, none⟩) (by have := HBm.out; simp; omega) _).alloc _)
              · exact ((hBw.setCell (p := ⟨Bx, 0, none⟩) (show w.heap.size ≤ Bx by omega) _).setCell (p := ⟨Bx, 1, none⟩) (show w.heap.size ≤ Bx by omega) _).alloc (by have := hBw.size; simpa [World.setCell] using this) _
              · simpa [World.setCell] using Nat.lt_succ_of_lt hrl
        · obtain rfl : k = N + 1 := by omega
          have hG := HG.out
          rw [Nat.sub_self, rootGo] at hG
          go_wp2
          have q := HBB.out
          have hh := set2_heap (v := .int .i64 0) (u := .int .i64 0) HRR.out
          refine bodyPost_ret (results_cell_row2 rfl _ _ Br 24 #[.int .i64 0, .int .i64 0] (0, 0) _ rfl hh Try.underlying24 rfl (by kernel_rfl)) rfl ?_
          unfold RootPost
          rw [HN.out, HRe.out, ← hG]
          exact ⟨rfl, (hBw.setCell (p := ⟨Br, 0, none⟩) (show w.heap.size ≤ Br by omega) _).setCell (p := ⟨Br, 1, none⟩) (show w.heap.size ≤ Br by omega) _⟩
end Go.Proofs.Ytejafcdlkpmemaa
