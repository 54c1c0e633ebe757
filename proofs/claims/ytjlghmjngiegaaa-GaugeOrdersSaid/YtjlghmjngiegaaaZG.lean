/- The gauge's Order. -/
import Derived.Test.YtjlghmjngiegaaaZF
import Derived.Test.YtjlghmjngiegaaaW10
import Derived.OwnWalk
namespace Go.Proofs.Ytjlghmjngiegaaa
open Go Go.Gauge Go.RowKit
/-- a place's key -/
def fk (zs : List F64) (i : Nat) : Int := match zs[i]? with
  | some z => key z.1
  | none => 0
theorem fk_at (zs : List F64) {i : Nat} (h : i < zs.length) : fk zs i = key zs[i].1 := by unfold fk; rw [List.getElem?_eq_getElem h]
theorem keyCmp_F (x y : Nat) : keyCmp x y = cmpF (key x) (key y) := rfl
theorem rd_fl {zs : List F64} {w : World} {B n c : Nat} {A : Option Addr} (h : Rd w B 1 (.slice A n c) n (zs.map fl)) {i : Nat} (hi : i < zs.length) : ∃ b o, A = some ⟨b, o, none⟩ ∧ b < B ∧ w.cell? ⟨b, o + i, none⟩ = some (.float .f64 zs[i].1) := by
  have hl : zs.length = n := by have := h.1; simpa using this
  obtain ⟨b, o, rfl, hb, hc⟩ := h.cells (by omega)
  exact ⟨b, o, rfl, hb, hc i _ (by rw [List.getElem?_map, List.getElem?_eq_getElem hi]; rfl)⟩
set_option maxRecDepth 100000 in
set_option maxHeartbeats 2000000 in
theorem closure40 (zs : List F64) (A : Option Addr) (n c bx B : Nat) (w : World) (hR : Rd w B 1 (.slice A n c) n (zs.map fl)) (hb : w.cell? ⟨bx, 0, none⟩ = some (.slice A n c)) {i k : Nat} (hi : i < n) (hk : k < n) :
    Calls Try.prog 40 #[.int .i64 (i : Int), .int .i64 (k : Int), .pointer (some ⟨bx, 0, none⟩)] w fun e w' => e = .returned (.int .i64 (cmpF (fk zs i) (fk zs k))) ∧ ∃ q, w' = w.drewN q := by
  have hl : zs.length = n := by have := hR.1; simpa using this
  obtain ⟨b, o, rfl, _, c0⟩ := rd_fl hR (i := i) (by omega)
  obtain ⟨b2, o2, e2, _, c1⟩ := rd_fl hR (i := k) (by omega)
  cases e2
  have HC := Lib.hid (cmp_any zs[i].1 zs[k].1 zs[i].2 zs[k].2)
  rw [fk_at zs (by omega), fk_at zs (by omega)]
  obtain ⟨x, hx⟩ : ∃ x, zs[i].1 = x := ⟨_, rfl⟩
  obtain ⟨y, hy⟩ : ∃ x, zs[k].1 = x := ⟨_, rfl⟩
  rw [hx, hy] at HC
  rw [hx] at c0
  rw [hy] at c1
  rw [hx, hy]
  simp only [keyCmp_F] at HC
  obtain ⟨cc, hcc⟩ : ∃ cc, cmpF (key x) (key y) = cc := ⟨_, rfl⟩
  rw [hcc] at HC
  rw [hcc]
  have i1 : (0 : Int) ≤ (i : Int) := by omega
  have i2 : (i : Int) < (n : Int) := by omega
  have i3 : (0 : Int) ≤ (k : Int) := by omega
  have i4 : (k : Int) < (n : Int) := by omega
  clear hR hx hy hcc hl hi hk
  go_enter Try.func40, Try.ntmps40
  go_wp2
  go_region_held3 (fun W' => W'.cell? ⟨bx, 0, none⟩ = some (.slice (some ⟨b, o, none⟩) n c) ∧ W'.cell? ⟨b, o + i, none⟩ = some (.float .f64 x) ∧ W'.cell? ⟨b, o + k, none⟩ = some (.float .f64 y))
    (exact ⟨hb, c0, c1⟩)
    ((go_at_call 16; refine (HC.out _).mono ?_; rintro e wy ⟨rfl, rfl⟩))
  go_wp2
  go_ret
  exact ⟨rfl, 1, rfl⟩
theorem stableFunc_any {g cap n bx : Nat} {w0 w : World} {f : Nat → Int} (h : St g cap w0 (List.range n) w) (HC : CmpOk g bx n w0 f) (hbig : n ≤ 100000) :
    Calls Try.prog 39 #[.slice (some ⟨g, 0, none⟩) n cap, .func (.func 40) #[] #[.pointer (some ⟨bx, 0, none⟩)]] w fun e w' => e = .returned (.tuple #[]) ∧ ∃ Z, Z.Perm (List.range n) ∧ Z.Pairwise (Lex f) ∧ St g cap w0 Z w' := by
  have HS := Lib.hid (stable_any h HC hbig)
  clear h HC
  go_enter Try.func39, Try.ntmps39
  go_wp2_with (go_at_call 45; refine HS.out.mono ?_; rintro e w5 ⟨rfl, Z, p1, p2, h5⟩)
  go_end0
  exact ⟨rfl, Z, p1, p2, h5⟩
theorem info3 : (Try.prog.info? 3).map (fun i => (i.zero, i.size, i.bytes)) = some (some (.int .i64 0), 1, 8) := by kernel_rfl
def OrPost (zs : List F64) (w : World) (e : Ending) (w' : World) : Prop :=
  ∃ (v : Value) (Z : List Nat), e = .returned v ∧ Z.Perm (List.range zs.length) ∧ Z.Pairwise (Lex (fk zs)) ∧ w'.ownsRow w.heap.size 3 1 v zs.length (Z.flatMap nC) ∧ Below w.heap.size w w'
def OrRel (g n : Nat) (w0 : World) (i : Value) (wr : World) : Prop := ∃ k : Nat, k ≤ n ∧ i = .int .i64 (k : Int) ∧ St g n w0 (List.range k ++ List.replicate (n - k) 0) wr
theorem nC_zeros (n : Nat) : (List.replicate n 0).flatMap nC = List.replicate n (.int .i64 0) := by
  induction n with
  | zero => rfl
  | succ n ih => rw [List.replicate_succ, List.replicate_succ, List.flatMap_cons, ih]; rfl
set_option maxRecDepth 100000 in
set_option maxHeartbeats 4000000 in
theorem order_any (zs : List F64) (A : Option Addr) (n c : Nat) (w : World) (hR : Rd w w.heap.size 1 (.slice A n c) n (zs.map fl)) (hbig : n ≤ 100000) :
    Calls Try.prog 22 #[.slice A n c] w (OrPost zs w) := by
  have hl : zs.length = n := by have := hR.1; simpa using this
  subst hl
  obtain ⟨i0, hi, hz0, hz1, hz2⟩ := info_parts info3
  obtain ⟨bx, hbx⟩ : ∃ b, w.heap.size = b := ⟨_, rfl⟩
  obtain ⟨W1, hW1⟩ : ∃ W, w.alloc (.cells #[.slice A zs.length c] 27) = W := ⟨_, rfl⟩
  have hb1 : Below w.heap.size w W1 := by rw [← hW1]; exact (Below.refl _ w).alloc (Nat.le_refl _) _
  have hx1 : W1.heap[bx]? = some (.cells #[.slice A zs.length c] 27 (0, 0)) := by rw [← hW1, ← hbx]; exact heap_alloc_new w _
  have HR := Lib.hid (fun W (hW : Below w.heap.size w W) => hR.below' hW (Nat.le_refl _))
  have HB1 := Lib.hid hb1
  have HX1 := Lib.hid hx1
  have HW1 := Lib.hid hW1
  have HBX := Lib.hid hbx
  have hsz : W1.heap.size = bx + 1 := by rw [← hW1, ← hbx, World.size_alloc]
  obtain ⟨g, hg⟩ : ∃ g, W1.heap.size = g := ⟨_, rfl⟩
  have HG := Lib.hid (show W1.heap.size = g ∧ g = bx + 1 from ⟨hg, by omega⟩)
  clear hR hb1 hx1 hW1 hbx hsz hg
  go_enter Try.func22, Try.ntmps22
  go_wp2_with (at_make; rw [HW1.out, HBX.out]; refine wpList_make_full _ rfl _ _ 40 rfl 0 3 i0 _ 1 Try.underlying40 hi hz0 hz1 .i64 .i64 _ _ zs.length rfl rfl rfl rfl (by rw [hz2]; omega) (by unfold maxLen; omega) (Nat.zero_le _) ?_; rw [HG.out.1]; intro w2 hown2 hgrow2)
  have hS0 : St g zs.length W1 (List.range 0 ++ List.replicate (zs.length - 0) 0) w2 := by
    have hz : (madeCells (Value.cells (.int .i64 0)) (zs.length * 1)).toList = List.replicate zs.length (.int .i64 0) := by rw [Nat.mul_one]; exact toList_madeCells_one _ _
    rw [hz] at hown2
    refine ⟨?_, (Touch.refl _ W1).grown hgrow2 (fun k h => by cases h)⟩
    rw [List.range_zero, List.nil_append, Nat.sub_zero, List.length_replicate, nC_zeros]
    exact hown2
  have hS1 : OrRel g zs.length W1 (.int .i64 0) w2 := ⟨0, Nat.zero_le _, rfl, hS0⟩
  have HS1 := Lib.hid hS1
  have HSB := Lib.hid (fun W (h : Touch (fun k => k = g) W1 W) => (show Below w.heap.size w W from HB1.out.trans (h.below HB1.out.size (fun x hx e => by have := HG.out; have := HBX.out; omega))))
  have HCM := Lib.hid (show CmpOk g bx zs.length W1 (fk zs) from fun W hW a b ha hb => by
    have hB := HSB.out W hW
    refine closure40 zs A zs.length c bx w.heap.size W (HR.out W hB) ?_ ha hb
    exact cell_of_row _ _ 0 _ _ _ (block_touch HX1.out hW (fun e => by have := HG.out; omega)))
  clear hS0 hS1 hown2 hgrow2
  go_wp2
  go_loopw [10] (fun i wr => OrRel g zs.length W1 i wr) (fun i _ => zs.length - (intOf i).toNat)
  case atStart => exact HS1.out
  case round =>
    clear HS1
    obtain ⟨k, hk, rfl, hS⟩ := hrel
    have HS := Lib.hid hS
    by_cases hlt : k < zs.length
    · obtain ⟨Y, hY⟩ : ∃ Y, List.range k ++ List.replicate (zs.length - k) 0 = Y := ⟨_, rfl⟩
      have hYl : Y.length = zs.length := by rw [← hY]; simp; omega
      rw [hY] at hS
      have hj : k < Y.length := by omega
      have c0 := hS.cell hj
      have f0 : ∀ i, wr.frozen? ⟨g, i, none⟩ = false := fun i => hS.frozen (by omega) i
      have HSE := Lib.hid (hS.set hj k)
      have hset : Y.set k k = List.range (k + 1) ++ List.replicate (zs.length - (k + 1)) 0 := by
        rw [← hY, List.set_append_right _ _ (by simp), List.length_range, Nat.sub_self, show zs.length - k = (zs.length - (k + 1)) + 1 by omega, List.replicate_succ, List.set_cons_zero, List.range_succ]
        simp
      rw [hset] at HSE
      have i1 : (k : Int) < (zs.length : Int) := by omega
      have i2 : (0 : Int) ≤ (k : Int) := by omega
      obtain ⟨y0, hy0⟩ : ∃ y, Y[k] = y := ⟨_, rfl⟩
      rw [hy0] at c0
      clear hY hYl hS hset hy0
      go_wp2
      go_roundw
      case rel => exact ⟨k + 1, by omega, by go_num, HSE.out⟩
      case measure => simp [intOf]; omega
    · obtain rfl : k = zs.length := by omega
      have i1 : ¬ (zs.length : Int) < (zs.length : Int) := by omega
      have hS2 : St g zs.length W1 (List.range zs.length) wr := by have := HS.out; simpa using this
      have HSF := Lib.hid (stableFunc_any hS2 HCM.out hbig)
      clear hS hS2
      go_wp2_with (go_at_call 39; refine HSF.out.mono ?_; rintro e w5 ⟨rfl, Z, p1, p2, h5⟩)
      go_ret
      refine ⟨.slice (some ⟨g, 0, none⟩) zs.length zs.length, Z, rfl, p1, p2, ?_, HSB.out w5 h5.tch⟩
      have hzl : Z.length = zs.length := perm_len p1
      have ho := h5.own
      rw [hzl] at ho
      refine ⟨ho.1, ?_⟩
      rcases ho.2 with h1 | ⟨g', cap', cur, e1, _, h3⟩
      · exact .inl h1
      · injection e1 with e1 _ ec
        injection e1 with e1
        injection e1 with e1
        subst e1 ec
        refine .inr ⟨g, zs.length, cur, rfl, ?_, h3⟩
        have := HG.out
        have := HBX.out
        omega
end Go.Proofs.Ytjlghmjngiegaaa
