/- slices.Backward over a row of places; the program's Within. -/
import Derived.Test.YtejafcdlkpmemaaPA
import Derived.Test.YtejafcdlkpmemaaD
import Derived.RangeFuncBox
import Derived.RangeFuncLeaves
import Derived.RangeFuncNested
import Derived.Shelf.Abstract
import Derived.WalkKit
import Derived.OwnWalkIn
import Derived.TacticsInMore
import Derived.LoopNIn
import Derived.LoopIn
import Derived.Maps.OwnIn
namespace Go.Proofs.Ytejafcdlkpmemaa
open Go Go.RowKit Go.Maps Go.Shelf
attribute [local go_sem] Oper.semAt_some
/-- this block and all below lie as they lay -/
def KeepsRd (Bs B : Nat) (W W' : World) : Prop := W'.heap[Bs]? = W.heap[Bs]? ∧ ∀ k, k < B → W'.heap[k]? = W.heap[k]?
theorem keepsRd_t {Bs B : Nat} {U V W : World} (h : KeepsRd Bs B U V) (k : KeepsRd Bs B V W) : KeepsRd Bs B U W := ⟨k.1.trans h.1, fun i hi => (k.2 i hi).trans (h.2 i hi)⟩
theorem keepsRd_b {Bs B : Nat} {w : World} (h1 : Bs < w.heap.size) (h2 : B ≤ w.heap.size) (W : World) (l : Nat) (o o' : Obj) (hl : w.heap.size ≤ l) (_ : W.heap[l]? = some o) (_ : o.isCells = false) (_ : o.isWalk = false) : KeepsRd Bs B W (W.putObj l o') := by
  have : ∀ k, k < w.heap.size → (W.putObj l o').heap[k]? = W.heap[k]? := fun k hk => by
    have : l ≠ k := by omega
    simp [World.putObj, this]
  exact ⟨this Bs h1, fun k hk => this k (by omega)⟩
theorem keepsRd_cell {Bs B : Nat} {W W' : World} (h : KeepsRd Bs B W W') {p : Addr} (hp : p.block < B) : W'.cell? p = W.cell? p := by
  simp [World.cell?, h.2 p.block hp]
def backP (x : Nat × Place) : Array Value := #[.int .i64 (x.1 : Int), .agg #[.int .i64 x.2.nd.s.T, .int .i64 x.2.nd.s.R, .int .i64 x.2.nd.I, .int .i64 x.2.pa.s.T, .int .i64 x.2.pa.s.R, .int .i64 x.2.pa.I, .string x.2.nm, .bool x.2.dir]]
set_option maxRecDepth 100000 in
set_option maxHeartbeats 2000000 in
theorem backP_call (F : Fence) (n : Nat) (h64 : F.fn 64) (hro : F.round = none) (a : Option Addr) (len cap : Nat) (w : World) :
    CallsIn F n Try.prog 64 #[.slice a len cap] w fun e w' => e = .returned (.func (.func 78) #[] #[.pointer (some ⟨w.heap.size, 0, none⟩)]) ∧ w' = w.alloc (.cells #[.slice a len cap] 60) := by
  refine callsIn_of_wp Try.func64 rfl h64 ?_ hro
  simp only [Try.ntmps64, List.size_toArray, List.length_cons, List.length_nil, Nat.reduceAdd, Nat.reduceSub, Array.replicate_succ, Array.replicate_zero, List.push_toArray, List.append_toArray, List.nil_append, List.cons_append]
  gi_wp2
  go_ret
  exact ⟨rfl, rfl⟩
theorem drop_revP {H : List Place} {j : Nat} (h : j < H.length) : (H.drop j).reverse = (H.drop (j + 1)).reverse ++ [H[j]] := by
  rw [List.drop_eq_getElem_cons h, List.reverse_cons]
set_option maxRecDepth 100000 in
set_option maxHeartbeats 2000000 in
theorem backP_iter (F : Fence) (n : Nat) (h78 : F.fn 78) (hro : F.round = none) (hn : 1 ≤ n) (l Bs B cap : Nat) (A : Option Addr) (H : List Place) (hH : H.length ≤ 100000) (J Jx : List (Nat × Place) → World → Prop)
    (hY : ∀ pre x W, J pre W → pre.length < H.length → YieldAt F (n - 1) Try.prog l (backP x) W fun e W' =>
      (e = .returned (.bool true) ∧ J (pre ++ [x]) W' ∧ KeepsRd Bs B W W') ∨ (e = .returned (.bool false) ∧ Jx (pre ++ [x]) W'))
    (W : World) (hBs : W.heap[Bs]? = some (.cells #[.slice A H.length cap] 60 (0, 0))) (hb : Rd W B 8 (.slice A H.length cap) H.length (H.flatMap plC)) (h0 : J [] W) :
    CallsIn F n Try.prog 78 #[.func (.yield l) #[] #[], .pointer (some ⟨Bs, 0, none⟩)] W fun e W' => (∃ v, e = .returned v) ∧
      ((∃ ys : List (Nat × Place), ys.map Prod.snd = H.reverse ∧ J ys W') ∨ (∃ pre : List (Nat × Place), True ∧ Jx pre W')) := by
  have HB := Lib.hid hb
  have HBs := Lib.hid hBs
  have hcs : W.cell? ⟨Bs, 0, none⟩ = some (.slice A H.length cap) := cell_of_row _ _ 0 _ _ _ hBs
  clear hb hBs
  refine callsIn_of_wp Try.func78 rfl h78 ?_ hro
  simp only [Try.ntmps78, List.size_toArray, List.length_cons, List.length_nil, Nat.reduceAdd, Nat.reduceSub, Array.replicate_succ, Array.replicate_zero, List.push_toArray, List.append_toArray, List.nil_append, List.cons_append]
  gi_wp2
  gi_loopw [3] (fun i wr => ∃ (k : Nat) (v : Int) (pre : List (Nat × Place)), i = .int .i64 v ∧ v = (k : Int) - 1 ∧ k ≤ H.length ∧ pre.length + k = H.length ∧ pre.map Prod.snd = (H.drop k).reverse ∧ J pre wr ∧ KeepsRd Bs B W wr)
    (fun i _ => (intOf i + 1).toNat)
  case atStart => exact ⟨H.length, _, [], rfl, by go_num, Nat.le_refl _, by simp, by simp, h0, rfl, fun _ _ => rfl⟩
  case round =>
    obtain ⟨k, v, pre, rfl, hv, hk, hl, hp, hJs, hK⟩ := hrel
    have HP := Lib.hid hp
    have HK := Lib.hid hK
    clear hp hK hcs
    rcases k with _ | j
    · have hv0 : v < 0 := by omega
      clear hv
      gi_wp2
      go_end0
      exact ⟨⟨_, rfl⟩, .inl ⟨pre, by have := HP.out; simpa using this, hJs⟩⟩
    · obtain rfl : v = (j : Int) := by omega
      clear hv
      have hj : j < H.length := by omega
      have hcs : wr.cell? ⟨Bs, 0, none⟩ = some (.slice A H.length cap) := cell_of_row _ _ 0 _ _ _ (HK.out.1.trans HBs.out)
      obtain ⟨b, o, rfl, hBb, hc0⟩ := rd_at plC 8 (fun _ => rfl) (by decide) HB.out hj
      have hc : ∀ r u, (plC H[j])[r]? = some u → wr.cell? ⟨b, o + j * 8 + r, none⟩ = some u := fun r u hu => (keepsRd_cell HK.out (p := ⟨b, o + j * 8 + r, none⟩) hBb).trans (hc0 r u hu)
      have HD := Lib.hid (drop_revP hj)
      obtain ⟨x, hx⟩ : ∃ x, H[j] = x := ⟨_, rfl⟩
      rw [hx] at hc HD
      have c0 := hc 0 _ rfl
      have c1 := hc 1 _ rfl
      have c2 := hc 2 _ rfl
      have c3 := hc 3 _ rfl
      have c4 := hc 4 _ rfl
      have c5 := hc 5 _ rfl
      have c6 := hc 6 _ rfl
      have c7 := hc 7 _ rfl
      clear hc hx hc0
      simp only [Nat.add_zero] at c0
      obtain ⟨fn, tmps, assign, body, hy, hR⟩ := hY pre (j, x) wr hJs (by omega)
      dsimp only [backP] at hy
      have i1 : (0 : Int) ≤ (j : Int) := by omega
      have i2 : (j : Int) < (H.length : Int) := by omega
      gi_wp2
      refine hR.mono ?_
      rintro e W3 (⟨rfl, hJ3, hk3⟩ | ⟨rfl, hJx3⟩)
      · gi_wp2
        go_roundw
        case rel => exact ⟨j, _, pre ++ [(j, x)], rfl, by go_num, by omega, by simp; omega, by rw [List.map_append, HP.out, HD.out]; rfl, hJ3, keepsRd_t HK.out hk3⟩
        case measure => simp [intOf]
      · gi_wp2
        refine bodyPost_ret (results_none rfl _ _ _) rfl ?_
        exact ⟨⟨_, rfl⟩, .inr ⟨_, trivial, hJx3⟩⟩
theorem backP_stops (F : Fence) (n : Nat) (h78 : F.fn 78) (hro : F.round = none) (hn : 1 ≤ n) (Bs B cap : Nat) (A : Option Addr) (H : List Place) (hH : H.length ≤ 100000) (w : World)
    (hBs : w.heap[Bs]? = some (.cells #[.slice A H.length cap] 60 (0, 0))) (hb : Rd w B 8 (.slice A H.length cap) H.length (H.flatMap plC)) (hB : B ≤ w.heap.size) :
    SeqStopsK F n Try.prog 78 #[.pointer (some ⟨Bs, 0, none⟩)] backP (KeepsRd Bs B) (fun ys => ys.map Prod.snd = H.reverse) (fun _ => True) H.length w := fun l J Jx W hW _ _ hY h0 =>
  backP_iter F n h78 hro hn l Bs B cap A H hH J Jx hY W ((hW.block Bs (Array.getElem?_eq_some_iff.1 hBs).1).trans hBs) (hb.below' hW hB) h0
def pOf (pre : List (Nat × Place)) : Id → Option Place := pfind (pre.map Prod.snd).reverse
theorem pOf_snoc (pre : List (Nat × Place)) (x : Nat × Place) (s : Id) : pOf (pre ++ [x]) s = if s = x.2.nd then some x.2 else pOf pre s := by
  unfold pOf pfind
  rw [List.map_append, List.map_singleton, List.reverse_append, List.reverse_singleton, List.singleton_append, List.find?_cons]
  by_cases h : s = x.2.nd
  · simp [h]
  · rw [if_neg h]; simp [Ne.symm h]
def WpI (w : World) (x up : Id) (Bx Bu Bm bm M N : Nat) (pre : List (Nat × Place)) (W : World) : Prop :=
  Boxed W Bm 104 (.map (some bm)) ∧ (∃ (m : Nat) (D : DataW Place), m ≤ pre.length ∧ PlMap (pOf pre) W bm m D) ∧ W.heap[Bx]? = some (.cells #[.int .i64 x.s.T, .int .i64 x.s.R, .int .i64 x.I] 26 (0, 0)) ∧ W.heap[Bu]? = some (.cells #[.int .i64 up.s.T, .int .i64 up.s.R, .int .i64 up.I] 26 (0, 0)) ∧
  Below w.heap.size w W ∧ pre.length ≤ N ∧ M ≤ W.heap.size
theorem wpI_own {w : World} {x up : Id} {Bx Bu Bm bm M N B : Nat} (h1 : Bx < B) (h2 : Bu < B) (h3 : Bm < B) (h4 : bm < B) (h5 : w.heap.size ≤ B) : OwnFrom B (WpI w x up Bx Bu Bm bm M N) := by
  rintro pre W W' row ⟨hbm, ⟨m, D, hm, hD⟩, hX, hU, hB, hN, hM⟩ hg hr
  have hr1 : ∀ k, k < B → ¬ row = some k := fun k hk e => by have := (hr k e).1; omega
  have hk : ∀ k o, k < B → W.heap[k]? = some o → W'.heap[k]? = some o := fun k o hk ho => (hg.block k (Array.getElem?_eq_some_iff.1 ho).1 (fun e => hr1 k hk e.symm)).trans ho
  exact ⟨hbm.kept hg (fun e => hr1 Bm h3 e.symm), ⟨m, D, hm, hD.1.kept hg (fun e => hr1 bm h4 e.symm), hD.2⟩, hk Bx _ h1 hX, hk Bu _ h2 hU, hB.grown hg hB.size (fun k e => by have := (hr k e).1; omega), hN, Nat.le_trans hM hg.size⟩
set_option maxRecDepth 100000 in
set_option maxHeartbeats 4000000 in
theorem pwithin_any (H : List Place) (x up : Id) (A : Option Addr) (n c B : Nat) (w : World) (hR : Rd w B 8 (.slice A n c) n (H.flatMap plC)) (hB : B ≤ w.heap.size) (hn : n ≤ 90000) :
    Calls Try.prog 41 #[.slice A n c, idV x, idV up] w fun e w' => e = .returned (.bool (withinGo H (H.length + 1) x up)) ∧ Below w.heap.size w w' := by
  obtain rfl := len_of plC 8 (fun _ => rfl) (by decide) hR.1
  have HR := Lib.hid (fun W (hW : Below w.heap.size w W) => hR.below' hW hB)
  clear hR
  have hmm := @run_makeMap Try.prog
  unfold idV
  refine (callsIn_wide (n := 6)).1 ?_
  refine callsIn_of_wp_marks Try.func41 rfl trivial ?_ rfl
  simp only [Try.ntmps41, List.size_toArray, List.length_cons, List.length_nil, Nat.reduceAdd, Nat.reduceSub, Array.replicate_succ, Array.replicate_zero, List.push_toArray, List.append_toArray, List.nil_append, List.cons_append]
  gi_wp2
  refine ⟨trivial, ?_⟩
  obtain ⟨w0, hw0⟩ : ∃ W, (((w.alloc (.cells #[.int .i64 x.s.T, .int .i64 x.s.R, .int .i64 x.I] 26)).alloc (.cells #[.int .i64 up.s.T, .int .i64 up.s.R, .int .i64 up.I] 26)).alloc (.map #[] 0)).alloc (.cells #[.map (some (w.heap.size + 1 + 1))] 104) = W := ⟨_, rfl⟩
  have hg0 : Grows w w0 := by rw [← hw0]; exact ((((Grows.refl w).alloc _).alloc _).alloc _).alloc _
  have hs0 : w0.heap.size = w.heap.size + 4 := by rw [← hw0]; simp
  have hx0 : w0.heap[w.heap.size]? = some (.cells #[.int .i64 x.s.T, .int .i64 x.s.R, .int .i64 x.I] 26 (0, 0)) := by
    rw [← hw0]
    exact (((((Grows.refl (w.alloc (.cells #[.int .i64 x.s.T, .int .i64 x.s.R, .int .i64 x.I] 26))).alloc _).alloc _).alloc _).below.block w.heap.size (by simp)).trans (heap_alloc_new w _)
  have hu0 : w0.heap[w.heap.size + 1]? = some (.cells #[.int .i64 up.s.T, .int .i64 up.s.R, .int .i64 up.I] 26 (0, 0)) := by
    rw [← hw0]
    exact ((((Grows.refl ((w.alloc (.cells #[.int .i64 x.s.T, .int .i64 x.s.R, .int .i64 x.I] 26)).alloc (.cells #[.int .i64 up.s.T, .int .i64 up.s.R, .int .i64 up.I] 26))).alloc _).alloc _).below.block (w.heap.size + 1) (by simp)).trans (by
      have := heap_alloc_new (w.alloc (.cells #[.int .i64 x.s.T, .int .i64 x.s.R, .int .i64 x.I] 26)) (.cells #[.int .i64 up.s.T, .int .i64 up.s.R, .int .i64 up.I] 26)
      rwa [World.size_alloc] at this)
  have hM0 : w0.ownsMap Try.prog 26 (objElem plV) (w.heap.size + 1 + 1) 0 (DataW.map ([] : List (Lit × DataW Place))) := by
    have := World.ownsMap_made (H := Place) ((w.alloc (.cells #[.int .i64 x.s.T, .int .i64 x.s.R, .int .i64 x.I] 26)).alloc (.cells #[.int .i64 up.s.T, .int .i64 up.s.R, .int .i64 up.I] 26)) Try.prog 26 (objElem plV)
    rw [World.size_alloc, World.size_alloc] at this
    rw [← hw0]
    exact this.alloc _
  have hBm0 : Boxed w0 (w.heap.size + 1 + 1 + 1) 104 (.map (some (w.heap.size + 1 + 1))) := by
    have := Boxed.new (((w.alloc (.cells #[.int .i64 x.s.T, .int .i64 x.s.R, .int .i64 x.I] 26)).alloc (.cells #[.int .i64 up.s.T, .int .i64 up.s.R, .int .i64 up.I] 26)).alloc (.map #[] 0)) 104 (.map (some (w.heap.size + 1 + 1)))
    rw [World.size_alloc, World.size_alloc, World.size_alloc] at this
    rw [← hw0]
    exact this
  rw [hw0]
  obtain ⟨Bx, hBx⟩ : ∃ b, w.heap.size = b := ⟨_, rfl⟩
  obtain ⟨Bu, hBu⟩ : ∃ b, w.heap.size + 1 = b := ⟨_, rfl⟩
  obtain ⟨bm, hbm⟩ : ∃ b, w.heap.size + 1 + 1 = b := ⟨_, rfl⟩
  obtain ⟨Bm, hBm⟩ : ∃ b, w.heap.size + 1 + 1 + 1 = b := ⟨_, rfl⟩
  rw [hBm, hbm] at hBm0
  rw [hbm] at hM0
  rw [hBu] at hu0
  rw [hBx] at hx0
  rw [hBm, hbm, hBu, hBx]
  have HBM := Lib.hid (show w0.heap.size = w.heap.size + 4 ∧ Bx = w.heap.size ∧ Bu = w.heap.size + 1 ∧ bm = w.heap.size + 2 ∧ Bm = w.heap.size + 3 by omega)
  clear hw0 hmm hbm hBx hBu hBm hs0
  have hb0 := hg0.below
  refine (backP_call Fence.wide 5 trivial rfl _ _ _ _).mono ?_
  rintro e w2 ⟨rfl, hw2⟩
  obtain ⟨Bs, hBs⟩ : ∃ k, w0.heap.size = k := ⟨_, rfl⟩
  have hbx : Boxed w2 Bs 60 (.slice A H.length c) := by rw [hw2, ← hBs]; exact Boxed.new w0 60 _
  have hg2 : Grows w0 w2 := by rw [hw2]; exact (Grows.refl w0).alloc _
  have hk2 := hg2.below
  have hBw : Below w.heap.size w w2 := hb0.trans (hk2.mono hb0.size)
  have hBw0 := hBw.size
  have hR2 := HR.out w2 hBw
  rw [hBs]
  have hI0 : WpI w x up Bx Bu Bm bm w2.heap.size H.length [] w2 :=
    ⟨(hk2.block Bm (by have := HBM.out; omega)).trans hBm0, ⟨0, _, Nat.le_refl _, hM0.kept (row := none) ⟨hk2.os, hk2.tape, hk2.output, hk2.size, fun k hk _ => hk2.block k hk⟩ (by simp), (FMap.start idK).congr (fun s => by simp [pOf, pfind])⟩,
      (hk2.block Bx (by have := HBM.out; omega)).trans hx0, (hk2.block Bu (by have := HBM.out; omega)).trans hu0, hBw, Nat.zero_le _, Nat.le_refl _⟩
  have hsz2 := hk2.size
  have hOwn := wpI_own (w := w) (x := x) (up := up) (Bx := Bx) (Bu := Bu) (Bm := Bm) (bm := bm) (M := w2.heap.size) (N := H.length) (B := w2.heap.size) (by have := HBM.out; omega) (by have := HBM.out; omega) (by have := HBM.out; omega) (by have := HBM.out; omega) hBw0
  have HBs := Lib.hid (show Bs = w.heap.size + 4 by have := HBM.out; omega)
  clear hg2 hk2 hM0 hBm0 hx0 hu0 hg0 hw2 hb0 hBs hsz2
  gi_wp2
  refine wpIn_rangeFunc_ownH rfl (by omega) (gf := 78) (lb := #[.pointer (some ⟨Bs, 0, none⟩)]) rfl trivial (enters_of Try.func78 (by kernel_rfl) rfl)
    (backP_stops Fence.wide 5 trivial rfl (by omega) Bs B c A H (by omega) w2 hbx hR2 (by omega)) (fun h k => keepsRd_t h k) (keepsRd_b hbx.lt (by omega)) (Below.refl _ _) (fun _ => rfl)
    (WpI w x up Bx Bu Bm bm w2.heap.size H.length) (fun _ _ _ => False) hOwn (fun _ _ _ _ _ hs _ _ => hs) hI0
    (fun p a' W => ∃ Bv, w2.heap.size ≤ Bv ∧ W.heap[Bv]? = some (.cells #[.int .i64 p.2.nd.s.T, .int .i64 p.2.nd.s.R, .int .i64 p.2.nd.I, .int .i64 p.2.pa.s.T, .int .i64 p.2.pa.s.R, .int .i64 p.2.pa.I, .string p.2.nm, .bool p.2.dir] 71 (0, 0)) ∧ a' = { tmps := #[.slice A H.length c, .agg #[.int .i64 x.s.T, .int .i64 x.s.R, .int .i64 x.I], .agg #[.int .i64 up.s.T, .int .i64 up.s.R, .int .i64 up.I], undef, .pointer (some ⟨Bx, 0, none⟩), .pointer (some ⟨Bu, 0, none⟩), .bool false, .pointer (some ⟨Bm, 0, none⟩), undef, .pointer (some ⟨Bv, 0, none⟩), .map (some bm), .slice A H.length c, .func (.func 78) #[] #[.pointer (some ⟨Bs, 0, none⟩)], .int .i64 (p.1 : Int), .agg #[.int .i64 p.2.nd.s.T, .int .i64 p.2.nd.s.R, .int .i64 p.2.nd.I, .int .i64 p.2.pa.s.T, .int .i64 p.2.pa.s.R, .int .i64 p.2.pa.I, .string p.2.nm, .bool p.2.dir], undef, undef, undef, undef, undef, undef, undef, undef, undef, undef, undef], defers := [] })
    (fun p a' _ X Y row hs hg hr => by
      obtain ⟨Bv, h1, h2, h3⟩ := hs
      refine ⟨Bv, h1, (hg.block Bv (Array.getElem?_eq_some_iff.1 h2).1 (fun e => ?_)).trans h2, h3⟩
      obtain ⟨_, o, ho, hc⟩ := hr Bv e.symm
      rw [h2] at ho; cases ho; cases hc)
    ?assign ?body ?done ?stop
  case assign =>
    rintro l pre p W K hI hK
    have hI' := hI
    obtain ⟨_, _, _, _, _, _, hMW⟩ := hI'
    dsimp only [backP]
    gi_wp2
    exact hK _ _ ((KeepsOthers.alloc _ _).from _) ⟨Below.heap_alloc _ _ _ (by have := hbx.lt; omega), fun k hk => Below.heap_alloc _ _ _ (by omega)⟩ (OwnFrom.alloc hOwn _ hI) ⟨W.heap.size, hMW, heap_alloc_new W _, rfl⟩
  case body =>
    rintro l pre ⟨j, h⟩ a' W hl ⟨r, hr⟩ ⟨hbm, ⟨m, D, hm, hD⟩, hX, hU, hB', hN, hMW⟩ ⟨Bv, hBv, hV, rfl⟩ hlt
    have d0 : W.cell? ⟨Bv, 0, none⟩ = some (.int .i64 h.nd.s.T) := cell_of_row _ _ 0 _ _ _ hV
    have d1 : W.cell? ⟨Bv, 1, none⟩ = some (.int .i64 h.nd.s.R) := cell_of_row _ _ 1 _ _ _ hV
    have d2 : W.cell? ⟨Bv, 2, none⟩ = some (.int .i64 h.nd.I) := cell_of_row _ _ 2 _ _ _ hV
    have d3 : W.cell? ⟨Bv, 3, none⟩ = some (.int .i64 h.pa.s.T) := cell_of_row _ _ 3 _ _ _ hV
    have d4 : W.cell? ⟨Bv, 4, none⟩ = some (.int .i64 h.pa.s.R) := cell_of_row _ _ 4 _ _ _ hV
    have d5 : W.cell? ⟨Bv, 5, none⟩ = some (.int .i64 h.pa.I) := cell_of_row _ _ 5 _ _ _ hV
    have d6 : W.cell? ⟨Bv, 6, none⟩ = some (.string h.nm) := cell_of_row _ _ 6 _ _ _ hV
    have d7 : W.cell? ⟨Bv, 7, none⟩ = some (.bool h.dir) := cell_of_row _ _ 7 _ _ _ hV
    have cm := hbm.cell
    have hmx : m < maxLen := by unfold maxLen; omega
    have HD := Lib.hid hD
    have hD1 := hD.1
    have HBMs := Lib.hid hbm
    have HXs := Lib.hid hX
    have HUs := Lib.hid hU
    clear hD hX hU hbm hV
    gi_wp2_with (gi_at_mapUpdate; refine wpListIn_mapUpdate_own _ rfl _ _ _ 104 rfl 26 71 keyed26 Try.underlying104 (objElem plV) bm m D rfl hD1 hmx (idV h.nd) (plV h) (idK h.nd) rfl rfl (key26 h.nd) (.held h) [] (objElem_mk plV_inj h) ?_; intro w5 hown5 hgrow5)
    have K5 : ∀ k, k < W.heap.size → k ≠ bm → w5.heap[k]? = W.heap[k]? := fun k h1 h2 => hgrow5.block k h1 (by simpa using h2)
    have hFin : KeepsFrom w2.heap.size W w5 ∧ KeepsRd Bs B W w5 ∧ WpI w x up Bx Bu Bm bm w2.heap.size H.length (pre ++ [(j, h)]) w5 := by
      obtain ⟨q1, q2, q3, q4, q5⟩ := HBM.out
      have q6 := hbx.lt
      have q7 := HBs.out
      refine ⟨KeepsFrom.of_grownBy hgrow5 (fun j e => by cases e; omega), ⟨K5 Bs (by omega) (by omega), fun k hk => K5 k (by omega) (by omega)⟩, ?_⟩
      refine ⟨(K5 Bm (by omega) (by omega)).trans HBMs.out, ⟨m + 1, _, by simp; omega, hown5, (HD.out.2.put ok26 HD.out.1.isMap h.nd h).congr (fun s => (pOf_snoc pre (j, h) s).symm)⟩, (K5 Bx (by omega) (by omega)).trans HXs.out, (K5 Bu (by omega) (by omega)).trans HUs.out, hB'.grown hgrow5 hB'.size (fun j e => by cases e; omega), by simp; omega, ?_⟩
      have := hgrow5.size
      omega
    have HFin := Lib.hid hFin
    clear hFin K5 hown5 hgrow5
    gi_wp2
    all_goals exact HFin.out
  case done =>
    rintro Dd ys W hD hSy ⟨hbm, ⟨m, D, hm, hM⟩, hX, hU, hB', hN, hMW⟩ hK
    have hpo : ∀ s, pOf ys s = pfind H s := fun s => by unfold pOf; rw [hSy, List.reverse_reverse]
    have hM' : PlMap (pfind H) W bm m D := ⟨hM.1, hM.2.congr hpo⟩
    have HW := Lib.hid (show Calls Try.prog 60 #[.map (some bm), idV x, idV up, .int .i64 ((H.length : Int) + 1)] W (fun e w' => e = .returned (.bool (withinGo H (H.length + 1) x up)) ∧ Below W.heap.size W w') from by
      have := within_any (pfind H) x up (H.length + 1) bm m D W hM' (by omega)
      rw [← withinGo_eq] at this
      simpa using this)
    unfold idV at HW
    have cm := hbm.cell
    have e0 : W.cell? ⟨Bx, 0, none⟩ = some (.int .i64 x.s.T) := cell_of_row _ _ 0 _ _ _ hX
    have e1 : W.cell? ⟨Bx, 1, none⟩ = some (.int .i64 x.s.R) := cell_of_row _ _ 1 _ _ _ hX
    have e2 : W.cell? ⟨Bx, 2, none⟩ = some (.int .i64 x.I) := cell_of_row _ _ 2 _ _ _ hX
    have f0 : W.cell? ⟨Bu, 0, none⟩ = some (.int .i64 up.s.T) := cell_of_row _ _ 0 _ _ _ hU
    have f1 : W.cell? ⟨Bu, 1, none⟩ = some (.int .i64 up.s.R) := cell_of_row _ _ 1 _ _ _ hU
    have f2 : W.cell? ⟨Bu, 2, none⟩ = some (.int .i64 up.I) := cell_of_row _ _ 2 _ _ _ hU
    have hwr : IntKind.i64.wrap ((H.length : Int) + 1) = (H.length : Int) + 1 := IntWalk.i64_in _ (by omega)
    have HK := Lib.hid hK
    have hKl := (Array.getElem?_eq_some_iff.1 hK).1
    clear hM hM' hpo hX hU hbm hK
    gi_wp2
    refine ⟨trivial, ?_⟩
    refine (callsIn_wide.2 HW.out).mono ?_
    rintro e W' ⟨rfl, hb'⟩
    have hK' := (hb'.block Dd hKl).trans HK.out
    gi_wp2
    refine ⟨by simp, .inl ⟨_, _, rfl, run_takeDeferred hK', ?_⟩⟩
    exact ⟨_, results_tmp rfl _ _ _, rfl, (hB'.trans (hb'.mono hB'.size)).trans (belowK_b (w := w) (Nat.le_refl _) W' Dd _ _ (by omega) hK' rfl rfl)⟩
  case stop =>
    rintro D c pre W _ _ h _
    exact h.elim
end Go.Proofs.Ytejafcdlkpmemaa
