/- slices.Backward over a row of heads: what the loop over it is handed. -/
import Derived.Test.YtejafcdlkpmemaaEH
import Derived.RangeFuncBox
import Derived.RangeFuncLeaves
import Derived.RangeFuncNested
import Derived.Shelf.Abstract
import Derived.WalkKit
import Derived.OwnWalkIn
import Derived.TacticsInMore
import Derived.LoopNIn
import Derived.LoopIn
namespace Go.Proofs.Ytejafcdlkpmemaa
open Go Go.RowKit Go.Shelf
attribute [local go_sem] Oper.semAt_some
/-- these blocks lie as they lay -/
def KeepsAt (k1 k2 : Nat) (W W' : World) : Prop := W'.heap[k1]? = W.heap[k1]? ∧ W'.heap[k2]? = W.heap[k2]?
theorem keepsAt_t {k1 k2 : Nat} {A B C : World} (h : KeepsAt k1 k2 A B) (k : KeepsAt k1 k2 B C) : KeepsAt k1 k2 A C := ⟨k.1.trans h.1, k.2.trans h.2⟩
theorem keepsAt_b {k1 k2 : Nat} {w : World} (h1 : k1 < w.heap.size) (h2 : k2 < w.heap.size) (W : World) (l : Nat) (o o' : Obj) (hl : w.heap.size ≤ l) (_ : W.heap[l]? = some o) (_ : o.isCells = false) (_ : o.isWalk = false) : KeepsAt k1 k2 W (W.putObj l o') := by
  have : ∀ k, k < w.heap.size → (W.putObj l o').heap[k]? = W.heap[k]? := fun k hk => by
    have : l ≠ k := by omega
    simp [World.putObj, this]
  exact ⟨this k1 h1, this k2 h2⟩
def backA (x : Nat × Head) : Array Value := #[.int .i64 (x.1 : Int), .agg #[.int .i64 x.2.nm.T, .int .i64 x.2.nm.R, .int .i64 x.2.un.T, .int .i64 x.2.un.R]]
set_option maxRecDepth 100000 in
set_option maxHeartbeats 2000000 in
theorem back_call (F : Fence) (n : Nat) (h56 : F.fn 56) (hro : F.round = none) (a : Option Addr) (len cap : Nat) (w : World) :
    CallsIn F n Try.prog 56 #[.slice a len cap] w fun e w' => e = .returned (.func (.func 74) #[] #[.pointer (some ⟨w.heap.size, 0, none⟩)]) ∧ w' = w.alloc (.cells #[.slice a len cap] 91) := by
  refine callsIn_of_wp Try.func56 rfl h56 ?_ hro
  simp only [Try.ntmps56, List.size_toArray, List.length_cons, List.length_nil, Nat.reduceAdd, Nat.reduceSub, Array.replicate_succ, Array.replicate_zero, List.push_toArray, List.append_toArray, List.nil_append, List.cons_append]
  gi_wp2
  go_ret
  exact ⟨rfl, rfl⟩
theorem drop_rev {H : List Head} {j : Nat} (h : j < H.length) : (H.drop j).reverse = (H.drop (j + 1)).reverse ++ [H[j]] := by
  rw [List.drop_eq_getElem_cons h, List.reverse_cons]
set_option maxRecDepth 100000 in
set_option maxHeartbeats 2000000 in
theorem back_iter (F : Fence) (n : Nat) (h74 : F.fn 74) (hro : F.round = none) (hn : 1 ≤ n) (l Bs b cap : Nat) (H : List Head) (R : List Value) (hH : H.length ≤ 100000) (J Jx : List (Nat × Head) → World → Prop)
    (hY : ∀ pre x W, J pre W → pre.length < H.length → YieldAt F (n - 1) Try.prog l (backA x) W fun e W' =>
      (e = .returned (.bool true) ∧ J (pre ++ [x]) W' ∧ KeepsAt Bs b W W') ∨ (e = .returned (.bool false) ∧ Jx (pre ++ [x]) W'))
    (W : World) (hBs : W.heap[Bs]? = some (.cells #[.slice (some ⟨b, 0, none⟩) H.length cap] 91 (0, 0))) (hb : W.heap[b]? = some (.cells (H.flatMap hdC ++ R).toArray 95 (0, 0))) (h0 : J [] W) :
    CallsIn F n Try.prog 74 #[.func (.yield l) #[] #[], .pointer (some ⟨Bs, 0, none⟩)] W fun e W' => (∃ v, e = .returned v) ∧
      ((∃ ys : List (Nat × Head), ys.map Prod.snd = H.reverse ∧ J ys W') ∨ (∃ pre : List (Nat × Head), True ∧ Jx pre W')) := by
  have HB := Lib.hid hb
  have HBs := Lib.hid hBs
  have hcs : W.cell? ⟨Bs, 0, none⟩ = some (.slice (some ⟨b, 0, none⟩) H.length cap) := cell_of_row _ _ 0 _ _ _ hBs
  clear hb hBs
  refine callsIn_of_wp Try.func74 rfl h74 ?_ hro
  simp only [Try.ntmps74, List.size_toArray, List.length_cons, List.length_nil, Nat.reduceAdd, Nat.reduceSub, Array.replicate_succ, Array.replicate_zero, List.push_toArray, List.append_toArray, List.nil_append, List.cons_append]
  gi_wp2
  gi_loopw [3] (fun i wr => ∃ (k : Nat) (v : Int) (pre : List (Nat × Head)), i = .int .i64 v ∧ v = (k : Int) - 1 ∧ k ≤ H.length ∧ pre.length + k = H.length ∧ pre.map Prod.snd = (H.drop k).reverse ∧ J pre wr ∧ KeepsAt Bs b W wr)
    (fun i _ => (intOf i + 1).toNat)
  case atStart => exact ⟨H.length, _, [], rfl, by go_num, Nat.le_refl _, by simp, by simp, h0, rfl, rfl⟩
  case round =>
    obtain ⟨k, v, pre, rfl, hv, hk, hl, hp, hJs, hK⟩ := hrel
    have HP := Lib.hid hp
    have HK := Lib.hid hK
    clear hp hK hcs
    rcases k with _ | j
    · have hv0 : v < 0 := by omega
      clear hv
      gi_wp2
      go_end0
      exact ⟨⟨_, rfl⟩, .inl ⟨pre, by have := HP.out; simpa using this, hJs⟩⟩
    · obtain rfl : v = (j : Int) := by omega
      clear hv
      have hj : j < H.length := by omega
      have hcs : wr.cell? ⟨Bs, 0, none⟩ = some (.slice (some ⟨b, 0, none⟩) H.length cap) := cell_of_row _ _ 0 _ _ _ (HK.out.1.trans HBs.out)
      have hc : ∀ r u, (hdC H[j])[r]? = some u → wr.cell? ⟨b, j * 4 + r, none⟩ = some u := fun r u hu => by
        rw [cell_of_row _ _ _ _ _ _ (HK.out.2.trans HB.out)]
        have h1 := flat_mid hdC 4 (fun _ => rfl) (H.take j) (H.drop (j + 1)) H[j] r u hu
        rw [← List.drop_eq_getElem_cons hj, List.take_append_drop, List.length_take, Nat.min_eq_left (by omega)] at h1
        have h2 := (List.getElem?_eq_some_iff.1 h1).1
        simpa [List.getElem?_append_left h2] using h1
      have HD := Lib.hid (drop_rev hj)
      obtain ⟨x, hx⟩ : ∃ x, H[j] = x := ⟨_, rfl⟩
      rw [hx] at hc HD
      have c0 := hc 0 _ rfl
      have c1 := hc 1 _ rfl
      have c2 := hc 2 _ rfl
      have c3 := hc 3 _ rfl
      clear hc hx
      simp only [Nat.add_zero] at c0
      obtain ⟨fn, tmps, assign, body, hy, hR⟩ := hY pre (j, x) wr hJs (by omega)
      dsimp only [backA] at hy
      have i1 : (0 : Int) ≤ (j : Int) := by omega
      have i2 : (j : Int) < (H.length : Int) := by omega
      gi_wp2
      refine hR.mono ?_
      rintro e W3 (⟨rfl, hJ3, hk3⟩ | ⟨rfl, hJx3⟩)
      · gi_wp2
        go_roundw
        case rel => exact ⟨j, _, pre ++ [(j, x)], rfl, by go_num, by omega, by simp; omega, by rw [List.map_append, HP.out, HD.out]; rfl, hJ3, keepsAt_t HK.out hk3⟩
        case measure => simp [intOf]
      · gi_wp2
        refine bodyPost_ret (results_none rfl _ _ _) rfl ?_
        exact ⟨⟨_, rfl⟩, .inr ⟨_, trivial, hJx3⟩⟩
set_option maxRecDepth 100000 in
set_option maxHeartbeats 1000000 in
theorem back_nil (F : Fence) (n : Nat) (h74 : F.fn 74) (hro : F.round = none) (l Bs : Nat) (J : List (Nat × Head) → World → Prop) (W : World) (hBs : W.cell? ⟨Bs, 0, none⟩ = some (.slice none 0 0)) (h0 : J [] W) :
    CallsIn F n Try.prog 74 #[.func (.yield l) #[] #[], .pointer (some ⟨Bs, 0, none⟩)] W fun e W' => (∃ v, e = .returned v) ∧ J [] W' := by
  refine callsIn_of_wp Try.func74 rfl h74 ?_ hro
  simp only [Try.ntmps74, List.size_toArray, List.length_cons, List.length_nil, Nat.reduceAdd, Nat.reduceSub, Array.replicate_succ, Array.replicate_zero, List.push_toArray, List.append_toArray, List.nil_append, List.cons_append]
  gi_wp2
  gi_loopw [3] (fun i wr => ∃ v : Int, i = .int .i64 v ∧ v < 0 ∧ J [] wr) (fun _ _ => 0)
  case atStart => exact ⟨_, rfl, by decide, h0⟩
  case round =>
    obtain ⟨v, rfl, hv, hJs⟩ := hrel
    gi_wp2
    go_end0
    exact ⟨⟨_, rfl⟩, hJs⟩
/-- the row of heads, or none -/
def HdRow (W : World) (sv : Value) (b : Nat) (H : List Head) : Prop :=
  (sv = .slice none 0 0 ∧ H = []) ∨ ∃ cap R, sv = .slice (some ⟨b, 0, none⟩) H.length cap ∧ W.heap[b]? = some (.cells (H.flatMap hdC ++ R).toArray 95 (0, 0))
theorem hdRow_own {W : World} {base : Nat} {v : Value} {H : List Head} (h : W.ownsRow base 95 4 v H.length (H.flatMap hdC)) {b0 lo : Nat} (hb0 : b0 < W.heap.size) (hlo : lo ≤ b0) (hl : lo ≤ base) : ∃ b, b < W.heap.size ∧ lo ≤ b ∧ HdRow W v b H := by
  rcases h.2 with ⟨rfl, h0⟩ | ⟨g, cap, cur, rfl, hg, hb', _, _, _, ht⟩
  · exact ⟨b0, hb0, hlo, .inl ⟨rfl, List.eq_nil_of_length_eq_zero h0⟩⟩
  · refine ⟨g, (Array.getElem?_eq_some_iff.1 hb').1, Nat.le_trans hl hg, .inr ⟨cap, cur.toList.drop (H.length * 4), rfl, ?_⟩⟩
    rw [← ht, List.take_append_drop]
    simpa using hb'
theorem back_stops (F : Fence) (n : Nat) (h74 : F.fn 74) (hro : F.round = none) (hn : 1 ≤ n) (Bs b : Nat) (sv : Value) (H : List Head) (hH : H.length ≤ 100000) (w : World)
    (hBs : w.heap[Bs]? = some (.cells #[sv] 91 (0, 0))) (hb : HdRow w sv b H) :
    SeqStopsK F n Try.prog 74 #[.pointer (some ⟨Bs, 0, none⟩)] backA (KeepsAt Bs b) (fun ys => ys.map Prod.snd = H.reverse) (fun _ => True) H.length w := fun l J Jx W hW _ _ hY h0 => by
  have hBs' := (hW.block Bs (Array.getElem?_eq_some_iff.1 hBs).1).trans hBs
  rcases hb with ⟨rfl, rfl⟩ | ⟨cap, R, rfl, hb⟩
  · refine (back_nil F n h74 hro l Bs J W (cell_of_row _ _ 0 _ _ _ hBs') h0).mono ?_
    rintro e W' ⟨h1, h2⟩
    exact ⟨h1, .inl ⟨[], rfl, h2⟩⟩
  · exact back_iter F n h74 hro hn l Bs b cap H R hH J Jx hY W hBs' ((hW.block b (Array.getElem?_eq_some_iff.1 hb).1).trans hb) h0
end Go.Proofs.Ytejafcdlkpmemaa
