/- The law GaugeOnce, walked. -/
import Derived.Test.YtjlghmjngiegaaaZG
import Derived.Test.YtjlghmjngiegaaaW11
import Derived.Test.YtjlghmjngiegaaaW6
namespace Go.Proofs.Ytjlghmjngiegaaa
open Go Go.Gauge Go.RowKit
theorem awake_any (w : World) : Calls Try.prog 10 #[] w fun e w' => e = .returned (.bool true) ∧ Below w.heap.size w w' := awake_of mid_said w
/-- how often each place has come -/
def cnts (n : Nat) (l : List Nat) : List Nat := (List.range n).map (fun j => l.count j)
theorem cnts_len (n : Nat) (l : List Nat) : (cnts n l).length = n := by simp [cnts]
theorem cnts_nil (n : Nat) : cnts n [] = List.replicate n 0 := by
  unfold cnts
  refine List.ext_getElem (by simp) fun i h1 h2 => by simp
theorem cnts_get (n : Nat) (l : List Nat) {j : Nat} (h : j < (cnts n l).length) : (cnts n l)[j] = l.count j := by simp [cnts]
theorem cnts_snoc (n : Nat) (l : List Nat) (x : Nat) (hx : x < (cnts n l).length) : cnts n (l ++ [x]) = (cnts n l).set x ((cnts n l)[x] + 1) := by
  refine List.ext_getElem (by simp [cnts]) fun i h1 h2 => ?_
  rw [cnts_get, List.getElem_set]
  split
  · rename_i e; subst e; rw [cnts_get, List.count_append]; simp
  · rename_i e
    rw [cnts_get, List.count_append, List.count_singleton]
    simp [e]
theorem rd_n {Z : List Nat} {w : World} {B n c : Nat} {A : Option Addr} (h : Rd w B 1 (.slice A n c) n (Z.flatMap nC)) (hl : Z.length = n) {i : Nat} (hi : i < Z.length) : ∃ b o, A = some ⟨b, o, none⟩ ∧ b < B ∧ w.cell? ⟨b, o + i, none⟩ = some (.int .i64 (Z[i] : Int)) := by
  obtain ⟨b, o, rfl, hb, hc⟩ := h.cells (by omega)
  exact ⟨b, o, rfl, hb, hc i _ (nC_get Z i hi)⟩
def On1Rel (g n : Nat) (w0 : World) (Z : List Nat) (i : Value) (wr : World) : Prop := ∃ k : Nat, k ≤ n ∧ i = .int .i64 (k : Int) ∧ St g n w0 (cnts n (Z.take k)) wr
def On2Rel (g n : Nat) (w0 : World) (Z : List Nat) (i : Value) (wr : World) : Prop := ∃ k : Nat, k ≤ n ∧ i = .int .i64 (k : Int) ∧ St g n w0 (cnts n Z) wr
set_option maxRecDepth 100000 in
set_option maxHeartbeats 8000000 in
theorem once_walk (zs : List F64) (A : Option Addr) (n c : Nat) (w : World) (hR : Rd w w.heap.size 1 (.slice A n c) n (zs.map fl)) :
    Calls Try.prog 8 #[.slice A n c] w fun e w' => e = .returned (.bool true) ∧ Below w.heap.size w w' := by
  have hl : zs.length = n := by have := hR.1; simpa using this
  subst hl
  obtain ⟨i0, hi, hz0, hz1, hz2⟩ := info_parts info3
  have HR := Lib.hid (fun W (hW : Below w.heap.size w W) => hR.below' hW (Nat.le_refl _))
  obtain ⟨_, hnc, hcm⟩ := hR.len
  unfold maxLen at hcm
  clear hR
  by_cases hbig : zs.length ≤ 300
  · have i0' : ¬ (300 : Int) < (zs.length : Int) := by omega
    go_enter Try.func8, Try.ntmps8
    go_wp2_with fail
    refine (awake_any w).mono ?_
    rintro e w1 ⟨rfl, hb1⟩
    have HB1 := Lib.hid hb1
    clear hb1
    have HO := Lib.hid (order_any zs A zs.length c w1 ((HR.out w1 HB1.out).more HB1.out.size) (by omega))
    have hneq : ((zs.length : Int) != (zs.length : Int)) = false := by simp
    go_wp2_with (first
      | (go_at_call 22; refine HO.out.mono ?_; rintro e w2 ⟨v, Z, rfl, p1, p2, hown, hb2⟩; obtain ⟨Av, cv, rfl, hvc, hvm⟩ := (Rd.of_own hown).form)
      | (at_make; refine wpList_make_full _ rfl _ _ 40 rfl 0 3 i0 _ 1 Try.underlying40 hi hz0 hz1 .i64 .i64 _ _ zs.length rfl rfl rfl rfl (by rw [hz2]; omega) (by unfold maxLen; omega) (Nat.zero_le _) ?_; intro w3 hown3 hgrow3))
    unfold maxLen at hvm
    have HP1 := Lib.hid p1
    have HP2 := Lib.hid p2
    have HRZ := Lib.hid (fun W (hW : Below w2.heap.size w2 W) => (Rd.of_own hown).below' hW (Nat.le_refl _))
    have HB2 := Lib.hid (HB1.out.trans (hb2.mono HB1.out.size))
    clear p1 p2 hown hb2
    obtain ⟨g, hg⟩ : ∃ g, w2.heap.size = g := ⟨_, rfl⟩
    have hS0 : St g zs.length w2 (cnts zs.length (Z.take 0)) w3 := by
      have hz : (madeCells (Value.cells (.int .i64 0)) (zs.length * 1)).toList = List.replicate zs.length (.int .i64 0) := by rw [Nat.mul_one]; exact toList_madeCells_one _ _
      rw [hz, hg] at hown3
      refine ⟨?_, (Touch.refl _ w2).grown hgrow3 (fun k h => by cases h)⟩
      rw [List.take_zero, cnts_nil, List.length_replicate, nC_zeros]
      exact hown3
    have HS1 := Lib.hid (show On1Rel g zs.length w2 Z (.int .i64 0) w3 from ⟨0, Nat.zero_le _, rfl, hS0⟩)
    have HG := Lib.hid hg
    have HSB := Lib.hid (fun W (h : Touch (fun k => k = g) w2 W) => (show Below w2.heap.size w2 W from h.below (Nat.le_refl _) (fun x hx e => by have := HG.out; omega)))
    rw [hg]
    clear hS0 hown3 hgrow3 hg
    go_wp2
    go_loopw [6] (fun i wr => On1Rel g zs.length w2 Z i wr) (fun i _ => zs.length - (intOf i).toNat)
    case atStart => exact HS1.out
    case round =>
      clear HS1
      obtain ⟨k, hk, rfl, hS⟩ := hrel
      have HS := Lib.hid hS
      have hzl := perm_len HP1.out
      by_cases hlt : k < zs.length
      · obtain ⟨b, o, rfl, _, c0⟩ := rd_n (HRZ.out wr (HSB.out wr hS.tch)) hzl (i := k) (by omega)
        have hzn : Z[k] < zs.length := perm_lt HP1.out _ (List.getElem_mem (by omega))
        have hsn := List.take_succ_eq_append_getElem (show k < Z.length by omega)
        obtain ⟨z, hz⟩ : ∃ z, Z[k] = z := ⟨_, rfl⟩
        rw [hz] at c0 hzn hsn
        have hj : z < (cnts zs.length (Z.take k)).length := by rw [cnts_len]; exact hzn
        have c1 := hS.cell hj
        have f0 : ∀ i, wr.frozen? ⟨g, i, none⟩ = false := fun i => hS.frozen (by omega) i
        have hcle : (cnts zs.length (Z.take k))[z] ≤ k := by rw [cnts_get]; exact Nat.le_trans List.count_le_length (by rw [List.length_take]; omega)
        have HSE := Lib.hid (hS.set hj ((cnts zs.length (Z.take k))[z] + 1))
        have hse := cnts_snoc zs.length (Z.take k) z hj
        obtain ⟨y, hy⟩ : ∃ y, (cnts zs.length (Z.take k))[z] = y := ⟨_, rfl⟩
        rw [hy] at c1 hcle
        rw [← hse, hy, ← hsn] at HSE
        have w1' : IntKind.i64.wrap ((y : Int) + 1) = ((y + 1 : Nat) : Int) := by rw [show (y : Int) + 1 = ((y + 1 : Nat) : Int) by omega]; exact IntWalk.i64_in _ (by omega)
        obtain ⟨y1, hy1⟩ : ∃ y1, y + 1 = y1 := ⟨_, rfl⟩
        rw [hy1] at w1' HSE
        have i1 : (k : Int) < (zs.length : Int) := by omega
        have i2 : (0 : Int) ≤ (k : Int) := by omega
        have i3 : (0 : Int) ≤ (z : Int) := by omega
        have i4 : (z : Int) < (zs.length : Int) := by omega
        have i5 : ¬ (z : Int) < 0 := by omega
        have i6 : ¬ zs.length ≤ z := by omega
        clear hz hsn hse hy hy1 hS hzl
        go_wp2
        exact ⟨⟨k + 1, by omega, by go_num, HSE.out⟩, by simp [intOf]; omega⟩
      · obtain rfl : k = zs.length := by omega
        have i1 : ¬ (zs.length : Int) < (zs.length : Int) := by omega
        have hS2 : On2Rel g zs.length w2 Z (.int .i64 0) wr := ⟨0, Nat.zero_le _, rfl, by have := HS.out; rw [List.take_of_length_le (by omega)] at this; exact this⟩
        have HS2 := Lib.hid hS2
        have HHR := Lib.hid (HR.out)
        clear hS hS2 hzl hlt
        go_wp2
        go_loopw [7] (fun i wr => On2Rel g zs.length w2 Z i wr) (fun i _ => zs.length - (intOf i).toNat)
        case atStart => exact HS2.out
        case round =>
          clear HS2 HS i1
          obtain ⟨k, hk, rfl, hS⟩ := hrel
          have HS := Lib.hid hS
          have hzl := perm_len HP1.out
          have hbw := HSB.out wr hS.tch
          by_cases hlt : k < zs.length
          · have hkc : k < (cnts zs.length Z).length := by rw [cnts_len]; exact hlt
            have d0 := hS.cell hkc
            have hc1 : (cnts zs.length Z)[k] = 1 := by
              rw [cnts_get, HP1.out.count_eq, List.nodup_range.count, if_pos (List.mem_range.2 hlt)]
            rw [hc1] at d0
            have i1 : (k : Int) < (zs.length : Int) := by omega
            have i2 : (0 : Int) ≤ (k : Int) := by omega
            rcases Nat.eq_zero_or_pos k with h0 | h0
            · subst h0
              clear hS hzl hbw hc1
              go_wp2
              go_roundw
              case rel => exact ⟨1, by omega, by go_num, HS.out⟩
              case measure => simp [intOf]; omega
            · obtain ⟨j, hj⟩ : ∃ j, j + 1 = k := ⟨k - 1, by omega⟩
              obtain ⟨b, o, rfl, _, c0⟩ := rd_n (HRZ.out wr hbw) hzl (i := k) (by omega)
              obtain ⟨b2, o2, e2, _, c1⟩ := rd_n (HRZ.out wr hbw) hzl (i := j) (by omega)
              cases e2
              have hzk : Z[k] < zs.length := perm_lt HP1.out _ (List.getElem_mem (by omega))
              have hzj : Z[j] < zs.length := perm_lt HP1.out _ (List.getElem_mem (by omega))
              have hwb := HB2.out.trans (hbw.mono HB2.out.size)
              obtain ⟨bb, oo, rfl, _, l0⟩ := rd_fl (HR.out wr hwb) hzk
              obtain ⟨bb2, oo2, e3, _, l1⟩ := rd_fl (HR.out wr hwb) hzj
              cases e3
              have hnx := List.pairwise_iff_getElem.1 HP2.out j k (by omega) (by omega) (by omega)
              unfold Lex at hnx
              rw [fk_at zs hzk, fk_at zs hzj] at hnx
              have HCM := Lib.hid (cmp_any zs[Z[j]].1 zs[Z[k]].1 zs[Z[j]].2 zs[Z[k]].2)
              obtain ⟨x, hx⟩ : ∃ x, zs[Z[j]].1 = x := ⟨_, rfl⟩
              obtain ⟨y, hy⟩ : ∃ y, zs[Z[k]].1 = y := ⟨_, rfl⟩
              rw [hx, hy] at HCM hnx
              rw [hy] at l0
              rw [hx] at l1
              obtain ⟨zk, hzk2⟩ : ∃ z, Z[k] = z := ⟨_, rfl⟩
              obtain ⟨zj, hzj2⟩ : ∃ z, Z[j] = z := ⟨_, rfl⟩
              rw [hzk2] at c0 hzk l0 hnx
              rw [hzj2] at c1 hzj l1 hnx
              have i3 : (0 : Int) ≤ (j : Int) := by omega
              have i4 : (j : Int) < (zs.length : Int) := by omega
              have i5 : (0 : Int) < (k : Int) := by omega
              have i6 : (0 : Int) ≤ (zk : Int) := by omega
              have i7 : (zk : Int) < (zs.length : Int) := by omega
              have i8 : (0 : Int) ≤ (zj : Int) := by omega
              have i9 : (zj : Int) < (zs.length : Int) := by omega
              have w1' : IntKind.i64.wrap ((k : Int) - 1) = (j : Int) := by rw [show (k : Int) - 1 = (j : Int) by omega]; exact IntWalk.i64_in _ (by omega)
              have hcc : keyCmp x y = -1 ∨ (keyCmp x y = 0 ∧ zj < zk) := by
                unfold keyCmp
                rcases hnx with h | ⟨h1, h2⟩
                · left; rw [if_pos h]
                · right; rw [if_neg (by omega), if_neg (by omega)]; exact ⟨rfl, h2⟩
              obtain ⟨cc, hce⟩ : ∃ cc, keyCmp x y = cc := ⟨_, rfl⟩
              rw [hce] at HCM hcc
              clear hS hbw hc1 hwb hnx hx hy hce hzk2 hzj2 hzk hzj
              go_wp2
              go_region_held3 (fun W' => (W'.cell? ⟨b, o + k, none⟩ = some (.int .i64 (zk : Int)) ∧ W'.cell? ⟨b, o + j, none⟩ = some (.int .i64 (zj : Int))) ∧ W'.cell? ⟨bb, oo + zk, none⟩ = some (.float .f64 y) ∧ W'.cell? ⟨bb, oo + zj, none⟩ = some (.float .f64 x))
                (exact ⟨⟨c0, c1⟩, l0, l1⟩)
                ((go_at_call 16; refine (HCM.out _).mono ?_; rintro e wy ⟨rfl, rfl⟩))
              rcases hcc with rfl | ⟨rfl, hzz⟩
              · go_wp2
                go_quiet (fail)
                go_wp2
                go_roundw
                case rel => exact ⟨k + 1, by omega, by go_num, HS.out.drewN _⟩
                case measure => simp [intOf]; omega
              · have j2 : ¬ (zk : Int) < (zj : Int) := by omega
                go_wp2
                go_quiet (fail)
                go_wp2
                go_roundw
                case rel => exact ⟨k + 1, by omega, by go_num, HS.out.drewN _⟩
                case measure => simp [intOf]; omega
          · obtain rfl : k = zs.length := by omega
            have i1 : ¬ (zs.length : Int) < (zs.length : Int) := by omega
            have HFI := Lib.hid (HB2.out.trans (hbw.mono HB2.out.size))
            clear hS hzl hbw
            go_wp2
            go_ret
            exact ⟨rfl, HFI.out⟩
  · have i0' : (300 : Int) < (zs.length : Int) := by omega
    go_enter Try.func8, Try.ntmps8
    go_wp2_with fail
    refine (awake_any w).mono ?_
    rintro e w1 ⟨rfl, hb1⟩
    go_wp2
    go_ret
    exact ⟨rfl, hb1⟩
end Go.Proofs.Ytjlghmjngiegaaa
