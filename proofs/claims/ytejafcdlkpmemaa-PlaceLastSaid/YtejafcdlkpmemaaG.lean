/- maps.Keys over a map of ids; slices.Collect; slices.SortedFunc. -/
import Derived.Test.YtejafcdlkpmemaaF
import Derived.RangeFuncNested
import Derived.RangeFuncBound
import Derived.RangeFuncCalls
import Derived.RangeFuncLeaves
import Derived.Shelf.Abstract
import Derived.WalkKit
import Derived.OwnWalkIn
import Derived.TacticsInMore
import Derived.LoopNIn
import Derived.LoopIn
import Derived.Maps.OwnIn
import Derived.Maps.AppendAt
import Derived.Sort.MapsRangeIn
namespace Go.Proofs.Ytejafcdlkpmemaa
open Go Go.RowKit Go.Maps Go.Shelf
attribute [local go_sem] Oper.semAt_some
theorem keys_call (mb : Option Nat) (w : World) : Calls Try.prog 48 #[.map mb] w fun e w' => e = .returned (.func (.func 67) #[] #[.pointer (some ⟨w.heap.size, 0, none⟩)]) ∧ w' = w.alloc (.cells #[.map mb] 75) := by
  go_enter Try.func48, Try.ntmps48
  go_wp2
  go_ret
  exact ⟨rfl, rfl⟩
set_option maxRecDepth 100000 in
set_option maxHeartbeats 1000000 in
theorem keys_iter (F : Fence) (n : Nat) (h67 : F.fn 67) (hro : F.round = none) (hn : 1 ≤ n) (l Bm b nn : Nat) (D0 : DataW HH) (J Jx : List Id → World → Prop)
    (hY : ∀ pre x W, J pre W → pre.length < Maps.size D0 → YieldAt F (n - 1) Try.prog l #[idV x] W fun e W' =>
      (e = .returned (.bool true) ∧ J (pre ++ [x]) W' ∧ KeepsWalks W W') ∨ (e = .returned (.bool false) ∧ Jx (pre ++ [x]) W'))
    (W : World) (hJ : AbidesFrom W.heap.size J) (hm : W.cell? ⟨Bm, 0, none⟩ = some (.map (some b))) (hown : W.ownsMap Try.prog 26 (unitElem (H := HH)) b nn D0) (h0 : J [] W) :
    CallsIn F n Try.prog 67 #[.func (.yield l) #[] #[], .pointer (some ⟨Bm, 0, none⟩)] W fun e W' => (∃ v, e = .returned v) ∧
      ((∃ ss : List Id, (ss.Nodup ∧ ∀ x, x ∈ ss ↔ has D0 (idK x) = true) ∧ J ss W') ∨ (∃ pre : List Id, True ∧ Jx pre W')) := by
  refine callsIn_of_wp Try.func67 rfl h67 ?_ hro
  simp only [Try.ntmps67, List.size_toArray, List.length_cons, List.length_nil, Nat.reduceAdd, Nat.reduceSub, Array.replicate_succ, Array.replicate_zero, List.push_toArray, List.append_toArray, List.nil_append, List.cons_append]
  gi_wp2_with (first
    | (gi_at_range; refine wpListIn_range_own _ rfl _ 75 rfl 26 78 keyed26 Try.underlying75 _ b nn _ rfl hown ?_; intro w0 hrg0 hg0 hs0)
    | gi_in)
  go_frame
  gi_loopw [3] (fun _ wr => ∃ (left : Lit → Bool) (cnt : Nat) (ss : List Id), wr.ranges Try.prog 26 (unitElem (H := HH)) b W.heap.size nn D0 left cnt ∧ ss.length + cnt ≤ Maps.size D0 ∧ Come idK D0 left ss ∧ J ss wr)
    (fun _ wr => wr.rangeLeft b W.heap.size)
  case atStart =>
    exact ⟨_, _, [], hrg0, by simp, Come.start idK D0, hJ [] W w0 none h0 hg0 (fun r e => by cases e)⟩
  case round =>
    obtain ⟨left, cnt, ss, hrg, hcs, hC, hJs⟩ := hrel
    gi_wp2_with (first
      | (gi_at_next; refine wpListIn_next_ranges _ rfl _ rfl 26 keyed26 unitElem idV (fun _ : Unit => .agg #[]) (fun key kl hk => by obtain ⟨a, h, _⟩ := key26_inv hk; exact ⟨a, h⟩) (fun v y hv => ⟨(), (unitElem_inv hv).1⟩) b W.heap.size nn _ _ _ rfl hrg ?_ ?_)
      | gi_in)
    · intro hc0 hl0
      gi_wp2
      go_end0
      exact ⟨⟨_, rfl⟩, .inl ⟨ss, ⟨hC.1, fun x => by rw [hC.2 x, hl0]; simp⟩, hJs⟩⟩
    · intro x kl yd yp w2 cnt2 hkey hlk hv hat hrg2 hlt hg2 hs2 hen
      obtain ⟨x', e1, rfl⟩ := key26_inv hkey
      obtain rfl := idV_inj e1
      have hJ2 : J ss w2 := hJ ss wr w2 (some W.heap.size) hJs hg2 (fun r e => by cases e; exact ⟨Nat.le_refl _, hrg.iter_walk⟩)
      have hJ3 : J ss (w2.alloc (.cells #[.int .i64 x.s.T, .int .i64 x.s.R, .int .i64 x.I] 26)) := hJ ss w2 _ none hJ2 (World.grownBy_alloc _ _ _) (fun r e => by cases e)
      obtain ⟨fn, tmps, assign, body, hy, hR⟩ := hY ss x _ hJ3 (by omega)
      have hC2 := hC.step ok26 hlk hat
      clear hs2 hkey e1
      unfold idV at hen hy ⊢
      gi_wp2
      refine hR.mono ?_
      rintro e W3 (⟨rfl, hJ3, hk3⟩ | ⟨rfl, hJx3⟩)
      · gi_wp2
        have hrg3 := (hrg2.alloc _).of_walks hk3
        go_roundw
        case rel => exact ⟨_, cnt2, ss ++ [x], hrg3, by simp; omega, hC2, hJ3⟩
        case measure => rw [hrg3.left_eq, hrg.left_eq]; exact hlt
      · gi_wp2
        refine bodyPost_ret (results_none rfl _ _ _) rfl ?_
        exact ⟨⟨_, rfl⟩, .inr ⟨ss ++ [x], trivial, hJx3⟩⟩
abbrev idA (x : Id) : Array Value := #[.agg #[.int .i64 x.s.T, .int .i64 x.s.R, .int .i64 x.I]]
theorem keys_stops (F : Fence) (n : Nat) (h67 : F.fn 67) (hro : F.round = none) (hn : 1 ≤ n) (Bm b nn : Nat) (D0 : DataW HH) (w : World) (hBm : Bm < w.heap.size) (hm : w.cell? ⟨Bm, 0, none⟩ = some (.map (some b))) (hown : w.ownsMap Try.prog 26 (unitElem (H := HH)) b nn D0) :
    SeqStopsK F n Try.prog 67 #[.pointer (some ⟨Bm, 0, none⟩)] idA KeepsWalks (fun ss => ss.Nodup ∧ ∀ x, x ∈ ss ↔ has D0 (idK x) = true) (fun _ => True) (Maps.size D0) w := fun l J Jx W hW hJ _ hY h0 => by
  have hown' : W.ownsMap Try.prog 26 (unitElem (H := HH)) b nn D0 := hown.kept (row := none) ⟨hW.os, hW.tape, hW.output, hW.size, fun k hk _ => hW.block k hk⟩ (by simp)
  exact keys_iter F n h67 hro hn l Bm b nn D0 J Jx hY W hJ ((hW.cell (p := ⟨Bm, 0, none⟩) hBm).trans hm) hown' h0
set_option maxRecDepth 100000 in
set_option maxHeartbeats 2000000 in
theorem appendSeq_in (F : Fence) (n : Nat) (h79 : F.fn 79) (hro : F.round = none) (hn : 3 ≤ n) (gf : Nat) (lb : Array Value) (hFg : F.fn gf) (eg : ∀ args w, (callFunc gf args).run Try.prog w = .ok (.enter gf args) w) (S Sp : List Id → Prop) (N : Nat) (hN : N ≤ 100000) (w : World)
    (hseq : SeqStopsK F (n - 1) Try.prog gf lb idA KeepsWalks S Sp N w) :
    CallsIn F n Try.prog 79 #[.slice none 0 0, .func (.func gf) #[] lb] w fun e W' => ∃ (v : Value) (L : List Id), e = .returned v ∧ S L ∧ L.length ≤ N ∧ W'.ownsRow w.heap.size 26 3 v L.length (L.flatMap idC) ∧ Below w.heap.size w W' := by
  have h1 : 1 ≤ n := by omega
  obtain ⟨i0, hi, hz0, hz1, hz2⟩ := info_parts info26
  refine callsIn_of_wp_marks Try.func79 rfl h79 ?_ hro
  simp only [Try.ntmps79, List.size_toArray, List.length_cons, List.length_nil, Nat.reduceAdd, Nat.reduceSub, Array.replicate_succ, Array.replicate_zero, List.push_toArray, List.append_toArray, List.nil_append, List.cons_append]
  gi_wp2
  have hB0 : Below w.heap.size w (w.alloc (.cells #[.slice none 0 0] 29)) := (Below.refl _ w).alloc (Nat.le_refl _) _
  refine wpIn_rangeFunc_ownH hro h1 (gf := gf) (lb := lb) rfl hFg eg hseq walksK_t walksK_b hB0 (fun _ => rfl)
    (fun pre W => ((∃ v, Boxed W w.heap.size 29 v ∧ W.ownsRow w.heap.size 26 3 v pre.length (pre.flatMap idC) ∧ True) ∧ Below w.heap.size w W) ∧ pre.length ≤ N)
    (fun _ _ _ => False)
    (OwnFrom.and (OwnFrom.and (Own.from (holdsRow_own w.heap.size w.heap.size 29 26 3 (fun pre : List Id => pre.length) (fun pre : List Id => pre.flatMap idC) (fun _ _ => True)) _) (ownFrom_below (Nat.le_refl _) (by simp))) (ownFrom_pure _ (fun pre : List Id => pre.length ≤ N)))
    (fun _ _ _ _ _ hs _ _ => hs)
    ⟨⟨⟨_, Boxed.new w 29 _, World.ownsRow_nil _ _ _ _, trivial⟩, hB0⟩, Nat.zero_le _⟩
    (fun x a' W => ∃ Bx, w.heap.size < Bx ∧ W.heap[Bx]? = some (.cells #[.int .i64 x.s.T, .int .i64 x.s.R, .int .i64 x.I] 26 (0, 0)) ∧ a' = { tmps := #[.slice none 0 0, .func (.func gf) #[] lb, .pointer (some ⟨w.heap.size, 0, none⟩), undef, .slice none 0 0, .pointer (some ⟨Bx, 0, none⟩), .func (.func gf) #[] lb, .agg #[.int .i64 x.s.T, .int .i64 x.s.R, .int .i64 x.I], undef, undef, undef, undef, undef], defers := [] })
    (fun x a' _ X Y row hs hg hr => by
      obtain ⟨Bx, h1, h2, h3⟩ := hs
      refine ⟨Bx, h1, (hg.block Bx (Array.getElem?_eq_some_iff.1 h2).1 (fun e => ?_)).trans h2, h3⟩
      obtain ⟨_, o, ho, hc⟩ := hr Bx e.symm
      rw [h2] at ho; cases ho; cases hc)
    ?assign ?body ?done ?stop
  case assign =>
    rintro l pre x W K ⟨⟨⟨v, hv, hrow, _⟩, hB⟩, hp⟩ hK
    gi_wp2
    exact hK _ _ ((KeepsOthers.alloc _ _).from _) (KeepsWalks.alloc _ _) ⟨⟨⟨v, hv.alloc _, hrow.alloc _, trivial⟩, hB.alloc hB.size _⟩, hp⟩ ⟨W.heap.size, hv.lt, heap_alloc_new W _, rfl⟩
  case body =>
    rintro l pre x a' W hl ⟨r, hr⟩ ⟨⟨⟨v, hv, hrow, _⟩, hB⟩, hp⟩ ⟨Bx, hBx, hX, rfl⟩ hlt
    have c0 : W.cell? ⟨Bx, 0, none⟩ = some (.int .i64 x.s.T) := cell_of_row _ _ 0 _ _ _ hX
    have c1 : W.cell? ⟨Bx, 1, none⟩ = some (.int .i64 x.s.R) := cell_of_row _ _ 1 _ _ _ hX
    have c2 : W.cell? ⟨Bx, 2, none⟩ = some (.int .i64 x.I) := cell_of_row _ _ 2 _ _ _ hX
    have cv := hv.cell
    gi_wp2_with (gi_at_builtin; refine wpListIn_append_own _ rfl _ _ 29 rfl w.heap.size 26 i0 _ 3 24 Try.underlying29 hi hz0 hz1 hz2 rfl (by decide) _ _ _ rfl (hrow.alloc _) ⟨W.heap.size, 0, none⟩ 1 1 (idC x) rfl rfl (cells_new W (idC x) 26) (idC_one x) (by unfold maxLen; omega) (by omega) (by have := hB.size; simp; omega) ?_; intro v' w1 hown' hgrow _; obtain ⟨g', cap', rfl⟩ := ownsRow_succ hown'; obtain ⟨hv1, hv2, hr2, hk2, hb2⟩ := hv.appended (by decide) hrow hB.size (Nat.le_refl _) hown' hgrow; have hc1 := hv1.cell; have hf1 := hv1.frozen)
    exact ⟨hk2.from _, hk2.walks, ⟨⟨_, hv2, by simpa using hr2, trivial⟩, hB.trans hb2⟩, by simp; omega⟩
  case done =>
    rintro D ys W hD hS ⟨⟨⟨v, hv, hrow, _⟩, hB⟩, hp⟩ hK
    have hc := hv.cell
    gi_wp2
    refine ⟨by simp, .inl ⟨_, _, rfl, run_takeDeferred hK, ?_⟩⟩
    exact ⟨_, results_tmp rfl _ _ _, v, ys, rfl, hS, hp, ownsRow_putObj hrow _ hK rfl, hB.trans (belowK_b (w := w) (Nat.le_refl _) W D _ _ (by simp at hD; omega) hK rfl rfl)⟩
  case stop =>
    rintro D c pre W _ _ h _
    exact h.elim
set_option maxHeartbeats 1000000 in
theorem collect_in (F : Fence) (n : Nat) (h65 : F.fn 65) (h79 : F.fn 79) (hro : F.round = none) (hn : 4 ≤ n) (gf : Nat) (lb : Array Value) (hFg : F.fn gf) (eg : ∀ args w, (callFunc gf args).run Try.prog w = .ok (.enter gf args) w) (S Sp : List Id → Prop) (N : Nat) (hN : N ≤ 100000) (w : World)
    (hseq : SeqStopsK F (n - 1 - 1) Try.prog gf lb idA KeepsWalks S Sp N w) :
    CallsIn F n Try.prog 65 #[.func (.func gf) #[] lb] w fun e W' => ∃ (v : Value) (L : List Id), e = .returned v ∧ S L ∧ L.length ≤ N ∧ W'.ownsRow w.heap.size 26 3 v L.length (L.flatMap idC) ∧ Below w.heap.size w W' := by
  have h1 : 1 ≤ n := by omega
  refine callsIn_of_wp Try.func65 rfl h65 ?_ hro
  simp only [Try.ntmps65, List.size_toArray, List.length_cons, List.length_nil, Nat.reduceAdd, Nat.reduceSub, Array.replicate_succ, Array.replicate_zero, List.push_toArray, List.append_toArray, List.nil_append, List.cons_append]
  gi_wp2_with (gi_at_call 79; refine (appendSeq_in F (n - 1) h79 hro (by omega) gf lb hFg eg S Sp N hN _ hseq).mono ?_; rintro e w' ⟨v, L, rfl, hS, hL, hrow, hb⟩)
  go_ret
  exact ⟨v, L, rfl, hS, hL, hrow, hb⟩
set_option maxHeartbeats 1000000 in
theorem sortedFunc_any (gf : Nat) (lb : Array Value) (eg : ∀ args w, (callFunc gf args).run Try.prog w = .ok (.enter gf args) w) (S Sp : List Id → Prop) (N : Nat) (hN : N ≤ 100000) (w : World)
    (hseq : SeqStopsK Fence.wide 2 Try.prog gf lb idA KeepsWalks S Sp N w) :
    Calls Try.prog 47 #[.func (.func gf) #[] lb, .func (.func 49) #[] #[]] w fun e W' => ∃ (v : Value) (L ys : List Id), e = .returned v ∧ S L ∧ ys.Perm L ∧ ys.Pairwise (fun a b => ¬ b.cmp a < 0) ∧ W'.ownsRow w.heap.size 26 3 v ys.length (ys.flatMap idC) ∧ Below w.heap.size w W' := by
  have hC := callsIn_wide.1 (collect_in Fence.wide 4 trivial trivial rfl (Nat.le_refl _) gf lb trivial eg S Sp N hN w hseq)
  go_enter Try.func47, Try.ntmps47
  go_wp2_with fail
  refine hC.mono ?_
  rintro e W ⟨v, L, rfl, hS, hL, hrow, hb⟩
  have HO := Lib.hid hrow
  obtain ⟨Av, cv, rfl, _, _⟩ := (Rd.of_own hrow).form
  clear hrow hC
  go_wp2_with fail
  refine (sortId_own L _ w.heap.size W HO.out (by omega)).mono ?_
  rintro e W2 ⟨rfl, ys, hp, hs, ho, hb2⟩
  have HS := Lib.hid hs
  have HP := Lib.hid hp
  have HO2 := Lib.hid ho
  have hb3 := hb.trans hb2
  clear hs hp ho hb hb2 HO
  go_wp2
  go_ret
  exact ⟨_, rfl, L, hS, ys, HP.out, HS.out.imp (fun {a b} h => by omega), HO2.out, hb3⟩
end Go.Proofs.Ytejafcdlkpmemaa
