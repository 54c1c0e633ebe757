/- The program's On: the groups that are on. -/
import Derived.Test.YtejafcdlkpmemaaEB
import Derived.Test.YtejafcdlkpmemaaEC
import Derived.Test.YtejafcdlkpmemaaER
import Derived.Test.YtejafcdlkpmemaaEP3
import Derived.Test.YtejafcdlkpmemaaD
import Derived.Maps.OwnIn
import Derived.Maps.AppendAt
import Derived.BigRegionIn
namespace Go.Proofs.Ytejafcdlkpmemaa
open Go Go.RowKit Go.Maps Go.Shelf
attribute [local go_sem] Oper.semAt_some
def undoneBy (s : Stamp) (G : List Head) : Nat := (G.filter fun g => decide (g.un = s)).length
theorem undoneBy_snoc (s : Stamp) (G : List Head) (x : Head) : undoneBy s (G ++ [x]) = undoneBy s G + if x.un = s then 1 else 0 := by
  unfold undoneBy
  rw [List.filter_append, List.length_append]
  by_cases e : x.un = s <;> simp [e]
theorem undoneBy_any (s : Stamp) (G : List Head) : G.any (fun g => decide (g.un = s)) = decide (0 < undoneBy s G) := by
  rw [Bool.eq_iff_iff, List.any_eq_true, decide_eq_true_iff, undoneBy, List.length_pos_iff_exists_mem]
  simp
theorem undoneBy_le (s : Stamp) (G : List Head) : undoneBy s G ≤ G.length := List.length_filter_le _ _
def gOf (pre : List (Nat × Head)) : List Head := goOn [] (pre.map Prod.snd)
theorem gOf_snoc (pre : List (Nat × Head)) (x : Nat × Head) : gOf (pre ++ [x]) = if 0 < undoneBy x.2.nm (gOf pre) then gOf pre else gOf pre ++ [x.2] := by
  unfold gOf
  rw [List.map_append, List.map_singleton, goOn_snoc, undoneBy_any]
  simp
theorem gOf_len (pre : List (Nat × Head)) : (gOf pre).length ≤ pre.length := by
  obtain ⟨m, h1, h2⟩ := goOn_sublist [] (pre.map Prod.snd)
  unfold gOf
  rw [h1]
  simpa using h2.length_le
def OnI (w : World) (Bo Bm bm b1 b2 M : Nat) (N : Nat) (pre : List (Nat × Head)) (W : World) : Prop :=
  (∃ g c, (g ≠ b1 ∧ g ≠ b2) ∧ Boxed W Bo 32 (.slice (some ⟨g, 0, none⟩) (gOf pre).length c) ∧ W.ownsRow w.heap.size 24 2 (.slice (some ⟨g, 0, none⟩) (gOf pre).length c) (gOf pre).length (((gOf pre).map Head.nm).flatMap stC)) ∧
  Boxed W Bm 97 (.map (some bm)) ∧ (∃ (m : Nat) (D : DataW HH), m ≤ pre.length ∧ W.ownsMap Try.prog 24 (plainElem Try.prog 3) bm m D ∧ ∀ s, D.atKey (stK s) (.lit (.int .i64 0)) = .lit (.int .i64 (undoneBy s (gOf pre) : Nat))) ∧
  Below w.heap.size w W ∧ pre.length ≤ N ∧ M ≤ W.heap.size
theorem onI_own {w : World} {Bo Bm bm b1 b2 M N B : Nat} (h1 : Bo < B) (h2 : Bm < B) (h3 : bm < B) (h4 : w.heap.size ≤ B) : OwnFrom B (OnI w Bo Bm bm b1 b2 M N) := by
  rintro pre W W' row ⟨⟨g, c, hne, hv, hrow⟩, hbm, ⟨m, D, hm, hD, hT⟩, hB, hN, hM⟩ hg hr
  have hr1 : ∀ k, k < B → ¬ row = some k := fun k hk e => by have := (hr k e).1; omega
  refine ⟨⟨g, c, hne, hv.kept hg (fun e => hr1 Bo h1 e.symm), hrow.kept hg ?_⟩, hbm.kept hg (fun e => hr1 Bm h2 e.symm), ⟨m, D, hm, hD.kept hg (fun e => hr1 bm h3 e.symm), hT⟩, ?_, hN, Nat.le_trans hM hg.size⟩
  · refine .inr (fun e => ?_)
    obtain ⟨_, o, ho, hc⟩ := hr g e.symm
    rcases hrow.2 with ⟨h, _⟩ | ⟨g', _, _, he, _, hb, _⟩
    · cases h
    · injection he with e1
      injection e1 with e1
      injection e1 with e1
      subst e1
      rw [hb] at ho
      cases ho
      cases hc
  · exact hB.grown hg hB.size (fun k e => by have := (hr k e).1; omega)
def OnPost (l : List Head) (w : World) (M : Nat) (e : Ending) (w' : World) : Prop :=
  ∃ (v : Value) (L : List Stamp), e = .returned v ∧ w'.ownsRow w.heap.size 24 2 v L.length (L.flatMap stC) ∧ OnIs l L ∧ L.length ≤ M ∧ Below w.heap.size w w'
set_option maxRecDepth 100000 in
set_option maxHeartbeats 4000000 in
theorem on_any (a bb : List Stamp) (A A' : Option Addr) (n c n' c' B : Nat) (w : World) (hR : Rd w B 2 (.slice A n c) n (a.flatMap stC)) (hR' : Rd w B 2 (.slice A' n' c') n' (bb.flatMap stC)) (hB : B ≤ w.heap.size) (hn : n ≤ 100000) :
    Calls Try.prog 32 #[.slice A n c, .slice A' n' c'] w (OnPost (zipH a bb) w a.length) := by
  obtain rfl := len_of stC 2 (fun _ => rfl) (by decide) hR.1
  have HH1 := Lib.hid (fun W (hb : Below w.heap.size w W) => heads_any a bb A A' _ c n' c' B W (hR.below' hb hB) (hR'.below' hb hB) (Nat.le_trans hB hb.size) hn)
  clear hR hR'
  have hmm := @run_makeMap Try.prog
  obtain ⟨i0, hi, hz0, hz1, hz2⟩ := info_parts info24
  refine (callsIn_wide (n := 6)).1 ?_
  refine callsIn_of_wp_marks Try.func32 rfl trivial ?_ rfl
  simp only [Try.ntmps32, List.size_toArray, List.length_cons, List.length_nil, Nat.reduceAdd, Nat.reduceSub, Array.replicate_succ, Array.replicate_zero, List.push_toArray, List.append_toArray, List.nil_append, List.cons_append]
  gi_wp2
  refine ⟨trivial, ?_⟩
  obtain ⟨w0, hw0⟩ : ∃ W, (((w.alloc (.cells #[] 24)).alloc (.map #[] 0)).alloc (.cells #[.slice (some ⟨w.heap.size, 0, none⟩) 0 0] 32)).alloc (.cells #[.map (some (w.heap.size + 1))] 97) = W := ⟨_, rfl⟩
  have hg0 : Grows w w0 := by rw [← hw0]; exact ((((Grows.refl w).alloc _).alloc _).alloc _).alloc _
  have hs0 : w0.heap.size = w.heap.size + 4 := by rw [← hw0]; simp
  have hE0 : w0.ownsRow w.heap.size 24 2 (.slice (some ⟨w.heap.size, 0, none⟩) 0 0) 0 [] := own_empty (Nat.le_refl _) (by rw [← hw0]; exact (((((Grows.refl (w.alloc (.cells #[] 24))).alloc _).alloc _).alloc _).below.block w.heap.size (by simp)).trans (heap_alloc_new w _))
  have hM0 : w0.ownsMap Try.prog 24 (plainElem Try.prog 3) (w.heap.size + 1) 0 (DataW.map ([] : List (Lit × DataW HH))) := by
    have := World.ownsMap_made (H := HH) (w.alloc (.cells #[] 24)) Try.prog 24 (plainElem Try.prog 3)
    rw [World.size_alloc] at this
    rw [← hw0]
    exact (this.alloc _).alloc _
  have hBo0 : Boxed w0 (w.heap.size + 1 + 1) 32 (.slice (some ⟨w.heap.size, 0, none⟩) 0 0) := by
    have := Boxed.new ((w.alloc (.cells #[] 24)).alloc (.map #[] 0)) 32 (.slice (some ⟨w.heap.size, 0, none⟩) 0 0)
    rw [World.size_alloc, World.size_alloc] at this
    rw [← hw0]
    exact this.alloc _
  have hBm0 : Boxed w0 (w.heap.size + 1 + 1 + 1) 97 (.map (some (w.heap.size + 1))) := by
    have := Boxed.new (((w.alloc (.cells #[] 24)).alloc (.map #[] 0)).alloc (.cells #[.slice (some ⟨w.heap.size, 0, none⟩) 0 0] 32)) 97 (.map (some (w.heap.size + 1)))
    rw [World.size_alloc, World.size_alloc, World.size_alloc] at this
    rw [← hw0]
    exact this
  rw [hw0]
  obtain ⟨bm, hbm⟩ : ∃ b, w.heap.size + 1 = b := ⟨_, rfl⟩
  obtain ⟨Bo, hBo⟩ : ∃ b, w.heap.size + 1 + 1 = b := ⟨_, rfl⟩
  obtain ⟨Bm, hBm⟩ : ∃ b, w.heap.size + 1 + 1 + 1 = b := ⟨_, rfl⟩
  rw [hbm] at hM0
  rw [hBo] at hBo0
  rw [hBm, hbm] at hBm0
  rw [hBm, hBo, hbm]
  have HBM := Lib.hid (show w0.heap.size = w.heap.size + 4 ∧ bm = w.heap.size + 1 ∧ Bo = w.heap.size + 2 ∧ Bm = w.heap.size + 3 by omega)
  clear hw0 hmm hbm hBo hBm hs0
  have hb0 := hg0.below
  refine (callsIn_wide.2 (HH1.out _ hb0)).mono ?_
  rintro e w1 ⟨v, H, rfl, hO, hS, hM, hl, hb⟩
  obtain ⟨A1, c1, rfl, _, _⟩ := (Rd.of_own hO).form
  gi_wp2
  refine ⟨trivial, ?_⟩
  refine (back_call Fence.wide 5 trivial rfl _ _ _ _).mono ?_
  rintro e w2 ⟨rfl, hw2⟩
  have hHd := hdRow_own hO (b0 := Bm) (lo := w.heap.size + 3) (by have := hb.size; have := HBM.out; omega) (by have := HBM.out; omega) (by have := HBM.out; omega)
  obtain ⟨b, hbl, hbB, hHd⟩ := hHd
  obtain ⟨Bs, hBs⟩ : ∃ k, w1.heap.size = k := ⟨_, rfl⟩
  have hbx : Boxed w2 Bs 91 (.slice A1 H.length c1) := by rw [hw2, ← hBs]; exact Boxed.new w1 91 _
  have hg2 : Grows w1 w2 := by rw [hw2]; exact (Grows.refl w1).alloc _
  have hk2 := hg2.below
  have hHd2 : HdRow w2 (.slice A1 H.length c1) b H := by
    rcases hHd with h | ⟨cap, R, h, h'⟩
    · exact .inl h
    · exact .inr ⟨cap, R, h, (hk2.block b hbl).trans h'⟩
  have hbl2 : b < w2.heap.size := by have := hk2.size; omega
  have hsz2 : w0.heap.size ≤ w2.heap.size := Nat.le_trans hb.size hk2.size
  have hB2 : Below w0.heap.size w0 w2 := hb.trans (hk2.mono hb.size)
  have hBsB : w.heap.size + 4 ≤ Bs := by have := hb.size; have := HBM.out; omega
  have hBw : Below w.heap.size w w2 := hb0.trans (hB2.mono hb0.size)
  have hne0 : w.heap.size ≠ Bs ∧ w.heap.size ≠ b := by have := HBM.out; have := hb.size; omega
  have hI0 : OnI w Bo Bm bm Bs b w2.heap.size H.length [] w2 :=
    ⟨⟨w.heap.size, 0, hne0, (hB2.block Bo (by have := HBM.out; omega)).trans hBo0, hE0.kept (row := none) ⟨hB2.os, hB2.tape, hB2.output, hB2.size, fun k hk _ => hB2.block k hk⟩ (.inr (by simp [Value.ownBlock]))⟩,
      (hB2.block Bm (by have := HBM.out; omega)).trans hBm0, ⟨0, _, Nat.le_refl _, hM0.kept (row := none) ⟨hB2.os, hB2.tape, hB2.output, hB2.size, fun k hk _ => hB2.block k hk⟩ (by simp), fun s => by simp [gOf, goOn, undoneBy, DataW.atKey]⟩, hBw, Nat.zero_le _, Nat.le_refl _⟩
  have hOwn := onI_own (w := w) (Bo := Bo) (Bm := Bm) (bm := bm) (b1 := Bs) (b2 := b) (M := w2.heap.size) (N := H.length) (B := w2.heap.size) (by have := HBM.out; omega) (by have := HBM.out; omega) (by have := HBM.out; omega) hBw.size
  have HS := Lib.hid (show H.Pairwise (fun x y => x.nm.Lt y.nm) ∧ ∀ h, h ∈ H ↔ First (zipH a bb) h from ⟨hS, hM⟩)
  clear hHd hg2 hk2 hB2 hE0 hM0 hBo0 hBm0 hO hS hM hg0 hw2 hb0 hb HH1 hsz2
  gi_wp2
  refine wpIn_rangeFunc_ownH rfl (by omega) (gf := 74) (lb := #[.pointer (some ⟨Bs, 0, none⟩)]) rfl trivial (enters_of Try.func74 (by kernel_rfl) rfl)
    (back_stops Fence.wide 5 trivial rfl (by omega) Bs b _ H (by omega) w2 hbx hHd2) (fun h k => keepsAt_t h k) (keepsAt_b hbx.lt hbl2) (Below.refl _ _) (fun _ => rfl)
    (OnI w Bo Bm bm Bs b w2.heap.size H.length) (fun _ _ _ => False) hOwn (fun _ _ _ _ _ hs _ _ => hs) hI0
    (fun x a' W => ∃ Bx, w2.heap.size ≤ Bx ∧ W.heap[Bx]? = some (.cells #[.int .i64 x.2.nm.T, .int .i64 x.2.nm.R, .int .i64 x.2.un.T, .int .i64 x.2.un.R] 95 (0, 0)) ∧ a' = { tmps := #[.slice A a.length c, .slice A' n' c', undef, undef, .slice none 0 0, .pointer (some ⟨Bo, 0, none⟩), .pointer (some ⟨Bm, 0, none⟩), undef, .pointer (some ⟨Bx, 0, none⟩), .slice (some ⟨w.heap.size, 0, none⟩) 0 0, .map (some bm), .slice A a.length c, .slice A' n' c', .slice A1 H.length c1, .func (.func 74) #[] #[.pointer (some ⟨Bs, 0, none⟩)], .int .i64 (x.1 : Int), .agg #[.int .i64 x.2.nm.T, .int .i64 x.2.nm.R, .int .i64 x.2.un.T, .int .i64 x.2.un.R], undef, undef, undef, undef, undef, undef, undef, undef, undef, undef, undef, undef, undef, undef, undef, undef, undef, undef, undef, undef], defers := [] })
    (fun x a' _ X Y row hs hg hr => by
      obtain ⟨Bx, h1, h2, h3⟩ := hs
      refine ⟨Bx, h1, (hg.block Bx (Array.getElem?_eq_some_iff.1 h2).1 (fun e => ?_)).trans h2, h3⟩
      obtain ⟨_, o, ho, hc⟩ := hr Bx e.symm
      rw [h2] at ho; cases ho; cases hc)
    ?assign ?body ?done ?stop
  case assign =>
    rintro l pre x W K hI hK
    have hI' := hI
    obtain ⟨_, _, _, _, _, hMW⟩ := hI'
    dsimp only [backA]
    gi_wp2
    exact hK _ _ ((KeepsOthers.alloc _ _).from _) ⟨Below.heap_alloc _ _ _ (by have := hbx.lt; omega), Below.heap_alloc _ _ _ (by omega)⟩ (OwnFrom.alloc hOwn _ hI) ⟨W.heap.size, hMW, heap_alloc_new W _, rfl⟩
  case body =>
    rintro l pre ⟨j, h⟩ a' W hl ⟨r, hr⟩ ⟨⟨g, c3, hne, hv, hrow⟩, hbm, ⟨m, D, hm, hD, hT⟩, hB, hN, hMW⟩ ⟨Bx, hBx, hX, rfl⟩ hlt
    have c0 : W.cell? ⟨Bx, 0, none⟩ = some (.int .i64 h.nm.T) := cell_of_row _ _ 0 _ _ _ hX
    have c1 : W.cell? ⟨Bx, 1, none⟩ = some (.int .i64 h.nm.R) := cell_of_row _ _ 1 _ _ _ hX
    have c2 : W.cell? ⟨Bx, 2, none⟩ = some (.int .i64 h.un.T) := cell_of_row _ _ 2 _ _ _ hX
    have c3' : W.cell? ⟨Bx, 3, none⟩ = some (.int .i64 h.un.R) := cell_of_row _ _ 3 _ _ _ hX
    have cv := hv.cell
    have cm := hbm.cell
    have HT := Lib.hid hT
    have HD := Lib.hid hD
    obtain ⟨cl, hlk, hat, _⟩ := hD.lookup_int keyed24 Try.underlying97 Try.underlying3 (Try.zeroValue3 _) (key24 h.nm)
    obtain ⟨t, ht⟩ : ∃ t, undoneBy h.nm (gOf pre) = t := ⟨_, rfl⟩
    have hcl : cl = (t : Int) := by
      have := hT h.nm
      rw [ht, hat] at this
      simpa using this
    subst hcl
    unfold stV at hlk
    have HTt := Lib.hid ht
    have hS0 := gOf_snoc pre (j, h)
    dsimp only at hS0
    rw [ht] at hS0
    have HS0 := Lib.hid hS0
    clear hT hD hat ht hS0
    by_cases ht0 : 0 < t
    · have hti : (0 : Int) < (t : Int) := by omega
      gi_wp2
      have e := HS0.out
      rw [if_pos ht0] at e
      refine ⟨KeepsFrom.refl _ _, ⟨rfl, rfl⟩, ?_⟩
      unfold OnI
      rw [e]
      exact ⟨⟨g, c3, hne, hv, hrow⟩, hbm, ⟨m, D, by simp; omega, HD.out, HT.out⟩, hB, by simp; omega, hMW⟩
    · obtain rfl : t = 0 := by omega
      have hti : (0 : Int) ≤ 0 := by omega
      rw [if_neg ht0] at HS0
      have hgl : (gOf pre).length ≤ 100000 := Nat.le_trans (gOf_len pre) (by omega)
      have hBoB : w.heap.size ≤ Bo := by have := HBM.out; omega
      gi_wp2_with (gi_at_builtin; refine wpListIn_append_own_at _ rfl _ _ 32 rfl w.heap.size 24 i0 _ 2 16 Try.underlying32 hi hz0 hz1 hz2 rfl (by decide) _ _ _ rfl (hrow.alloc _) ⟨W.heap.size, 0, none⟩ 1 1 (stC h.nm) rfl rfl (cells_new W (stC h.nm) 24) (stC_one h.nm) (by unfold maxLen; omega) (by omega) (by have := hB.size; simp; omega) ?_)
      intro v' w3 hown' hgrow _ hat
      obtain ⟨g', cap', rfl⟩ := ownsRow_succ hown'
      obtain ⟨hv1, hv2, hr2, hk2, hb2⟩ := hv.appended (by decide) hrow hB.size hBoB hown' hgrow
      have cc1 := hv1.cell
      have cf1 := hv1.frozen
      obtain ⟨w5, hw5⟩ : ∃ W, w3.setCell ⟨Bo, 0, none⟩ (.slice (some ⟨g', 0, none⟩) ((gOf pre).length + 1) cap') = W := ⟨_, rfl⟩
      rw [hw5] at hv2 hr2 hk2 hb2
      have hgB : g ≠ Bo := fun e => hv.not_row (by decide) hrow (by rw [e]; rfl)
      have hgBm : g ≠ Bm := fun e => hbm.not_row (by decide) hrow (by rw [e]; rfl)
      have hgBx : g ≠ Bx := fun e => by
        rcases hrow.2 with ⟨h, _⟩ | ⟨g', _, _, he, _, hb', _⟩
        · cases h
        · injection he with e1
          injection e1 with e1
          injection e1 with e1
          subst e1; subst e
          rw [hX] at hb'
          simp at hb'
      have K5 : ∀ k, k < W.heap.size → k ≠ g → k ≠ Bo → w5.heap[k]? = W.heap[k]? := fun k h1 h2 h3 => by
        rw [← hw5, Below.heap_setCell _ _ _ _ h3, hgrow.block k (by simp; omega) (by simp [Value.ownBlock]; exact h2), Below.heap_alloc _ _ _ h1]
      have hsz5 : W.heap.size ≤ w5.heap.size := hk2.size
      have hbm5 : Boxed w5 Bm 97 (.map (some bm)) := (K5 Bm hbm.lt hgBm.symm (by have := HBM.out; omega)).trans hbm
      have hX5 := (K5 Bx (Array.getElem?_eq_some_iff.1 hX).1 hgBx.symm (by have := hBw.size; have := HBM.out; have := hbx.lt; omega)).trans hX
      obtain ⟨om, om1, om2⟩ := map_walk HD.out
      have hmg : some bm ≠ (Value.slice (some ⟨g, 0, none⟩) (gOf pre).length c3).ownBlock := own_ne_walk hrow om1 om2
      have HD5 : w5.ownsMap Try.prog 24 (plainElem Try.prog 3) bm m D := by
        rw [← hw5]
        exact ((HD.out.alloc _).kept hgrow hmg).kept (grownBy_setCell' w3 Bo _) (by have := HBM.out; simp; omega)
      have hg'ne : g' ≠ Bs ∧ g' ≠ b := by
        rcases hat with e | e
        · have : g' = g := by simpa [Value.ownBlock] using e
          subst this; exact hne
        · have : g' = W.heap.size + 1 := by simpa [Value.ownBlock] using e
          have := hbx.lt
          omega
      have hKA : KeepsAt Bs b W w5 := ⟨K5 Bs (by have := hbx.lt; omega) hne.1.symm (by have := HBM.out; have := hbx.lt; omega), K5 b (by omega) hne.2.symm (by have := HBM.out; omega)⟩
      obtain ⟨s, hs⟩ : ∃ s, undoneBy h.un (gOf pre) = s := ⟨_, rfl⟩
      have hsl : s ≤ 100000 := by rw [← hs]; exact Nat.le_trans (undoneBy_le _ _) hgl
      have hwr : IntKind.i64.wrap ((s : Int) + 1) = (s : Int) + 1 := IntWalk.i64_in _ (by omega)
      obtain ⟨cl, hlk5, hat5, _⟩ := HD5.drew.lookup_int keyed24 Try.underlying97 Try.underlying3 (Try.zeroValue3 _) (key24 h.un)
      have hcl : cl = (s : Int) := by
        have := HT.out h.un
        rw [hs, hat5] at this
        simpa using this
      subst hcl
      obtain ⟨v0, st0, w6, w7, e1, e2, e3, e4, hM2, hg2⟩ := own_entry (val := .int .i64 ((s : Int) + 1)) HD5.drew law24 Try.underlying97 (fun u => Try.zeroValue3 u) (by unfold maxLen; omega) (key24 h.un) (plainElem_int Try.underlying3 ((wf64 _).2 (by unfold I64; omega)))
      have hv0 : v0 = .int .i64 (s : Int) := by
        rw [hlk5] at e1
        cases e1
        rfl
      subst hv0
      have HSs := Lib.hid hs
      have HM2 := Lib.hid hM2
      have HG2 := Lib.hid hg2
      have HK := Lib.hid hKA
      have d2 : w5.drew.cell? ⟨Bx, 2, none⟩ = some (.int .i64 h.un.T) := cell_of_row _ _ 2 _ _ _ hX5
      have d3 : w5.drew.cell? ⟨Bx, 3, none⟩ = some (.int .i64 h.un.R) := cell_of_row _ _ 3 _ _ _ hX5
      have dm : w5.drew.cell? ⟨Bm, 0, none⟩ = some (.map (some bm)) := hbm5.cell
      unfold stV at e1 e2 e3
      unfold goInt at e2 e4
      clear hlk5 hat5 hM2 hg2 hs hlk hKA om1 om2 hmg hgrow hat hown' hv1 c0 c1 c2 c3' cv cm
      have K7 : ∀ k, k < w5.heap.size → k ≠ bm → w7.heap[k]? = w5.heap[k]? := fun k h1 h2 => HG2.out.block k h1 (by simpa using h2)
      have hFin : KeepsFrom w2.heap.size W w7 ∧ KeepsAt Bs b W w7 ∧ OnI w Bo Bm bm Bs b w2.heap.size H.length (pre ++ [(j, h)]) w7 := by
        obtain ⟨q1, q2, q3, q4⟩ := HBM.out
        have q5 := hbx.lt
        refine ⟨((hk2.from _).trans ((KeepsOthers.drew w5).from _)).trans (KeepsFrom.of_grownBy HG2.out (fun j e => by cases e; have := hBw.size; omega)), keepsAt_t HK.out ⟨K7 Bs (by omega) (by omega), K7 b (by omega) (by omega)⟩, ?_⟩
        unfold OnI
        rw [HS0.out]
        refine ⟨⟨g', cap', hg'ne, ?_, ?_⟩, (K7 Bm hbm5.lt (by omega)).trans hbm5, ⟨m + 1, _, by simp; omega, HM2.out, fun s' => ?_⟩, ?_, by simp; omega, ?_⟩
        · have := (K7 Bo hv2.lt (by omega)).trans hv2
          simpa [Boxed] using this
        · obtain ⟨om, om1, om2⟩ := map_walk HD5.drew
          have := (own_drew hr2).kept HG2.out (.inr (own_ne_walk (own_drew hr2) om1 om2).symm)
          simpa using this
        · rw [undoneBy_snoc]
          by_cases e : h.un = s'
          · subst e
            rw [Maps.atKey_put_same HD5.isMap (keyed24.key (key24 h.un)), HSs.out]
            simp
          · rw [Maps.atKey_put_other (fun e' => e (stK_inj e').symm), HT.out s']
            simp [e]
        · exact ((hB.trans hb2).drew).grown HG2.out (by have := (hB.trans hb2).size; simpa using this) (fun j e => by cases e; omega)
        · have := HG2.out.size
          have := hMW
          simp at *
          omega
      have HFin := Lib.hid hFin
      clear hFin K7
      gi_wp2
      gi_region
      all_goals exact HFin.out
  case done =>
    rintro D ys W hD hSy ⟨⟨g, c3, hne, hv, hrow⟩, hbm, _, hB, hN, hMW⟩ hK
    have hrow' : W.ownsRow w.heap.size 24 2 (.slice (some ⟨g, 0, none⟩) ((gOf ys).map Head.nm).length c3) ((gOf ys).map Head.nm).length (((gOf ys).map Head.nm).flatMap stC) := by simpa using hrow
    have hLe : onL H = ((gOf ys).map Head.nm).reverse := by unfold onL gOf; rw [hSy]
    have hlen : (gOf ys).length ≤ H.length := Nat.le_trans (gOf_len ys) hN
    have hlm : ((gOf ys).map Head.nm).length = (gOf ys).length := by simp
    rw [← hlm] at hv hlen
    obtain ⟨G, hG⟩ : ∃ G, (gOf ys).map Head.nm = G := ⟨_, rfl⟩
    rw [hG] at hv hlen hrow' hLe
    have cv := hv.cell
    have hDg : g ≠ D := by
      rintro rfl
      rcases hrow.2 with ⟨h, _⟩ | ⟨g', _, _, he, _, hb', _⟩
      · cases h
      · injection he with e1
        injection e1 with e1
        injection e1 with e1
        subst e1
        rw [hb'] at hK
        cases hK
    have hBg : Bo ≠ g := by
      rintro rfl
      rcases hrow.2 with ⟨h, _⟩ | ⟨g', _, _, he, _, hb', _⟩
      · cases h
      · injection he with e1
        injection e1 with e1
        injection e1 with e1
        subst e1
        have := hv
        unfold Boxed at this
        rw [hb'] at this
        simp at this
    clear hrow hG hlm
    gi_wp2
    refine ⟨trivial, ?_⟩
    refine (callsIn_wide.2 (reverseSt_own G g c3 w.heap.size W hrow' (by omega))).mono ?_
    rintro e W' ⟨rfl, ho', hb', hk'⟩
    have hv' : Boxed W' Bo 32 (.slice (some ⟨g, 0, none⟩) G.length c3) := (hk' Bo hv.lt hBg).trans hv
    have hK' : W'.heap[D]? = some (.deferred (some [])) := (hk' D (Array.getElem?_eq_some_iff.1 hK).1 hDg.symm).trans hK
    have cv' := hv'.cell
    clear cv hv hK
    gi_wp2
    refine ⟨by simp, .inl ⟨_, _, rfl, run_takeDeferred hK', ?_⟩⟩
    refine ⟨_, results_tmp rfl _ _ _, _, G.reverse, rfl, ownsRow_putObj ho' _ hK' rfl, ⟨H, HS.out, hLe.symm⟩, by rw [List.length_reverse]; omega, (hB.trans hb').trans (belowK_b (w := w) (Nat.le_refl _) W' D _ _ (by have := hBw.size; omega) hK' rfl rfl)⟩
  case stop =>
    rintro D c pre W _ _ h _
    exact h.elim
end Go.Proofs.Ytejafcdlkpmemaa
