/- The document's shelf: where an id is, how many are seen. -/
import Derived.Test.YtphapjbfaomblaaSB
namespace Go.Proofs.Ytphapjbfaomblaa
open Go Go.RowKit Go.Maps
/-- the document's shelf at rb -/
structure RfIs (w : World) (rb : Nat) (vi vs : Value) (R : Row Id) : Prop where
  cell : w.heap[rb]? = some (.cells #[vi, vs] 46 (0, 0))
  ids : w.ownsRow 0 33 3 vi R.length ((namesR R).flatMap idC)
  sn : w.ownsRow 0 4 1 vs R.length ((seenR R).flatMap boC)
theorem RfIs.below {w w' : World} {rb : Nat} {vi vs : Value} {R : Row Id} (h : RfIs w rb vi vs R) (hb : Below w.heap.size w w') : RfIs w' rb vi vs R :=
  ⟨block_touch h.cell (Below.touch hb (fun _ => False)) (fun h => h), own_touch h.ids (Below.touch hb (fun _ => False)) (fun _ _ h => h), own_touch h.sn (Below.touch hb (fun _ => False)) (fun _ _ h => h)⟩
def CtRel (n : Nat) (R : Row Id) (w : World) (se i : Value) (wr : World) : Prop := ∃ j : Nat, j ≤ n ∧ i = .int .i64 j ∧ se = .int .i64 (cntR (R.take j) : Nat) ∧ wr = w
set_option maxHeartbeats 2000000 in
theorem rat_any {w : World} {rb : Nat} {vi vs : Value} {R : Row Id} (h : RfIs w rb vi vs R) (x : Id) :
    Calls Try.prog 30 #[.pointer (some ⟨rb, 0, none⟩), idV x] w fun e w' => (∃ r, e = .returned (.int .i64 r) ∧ AtIs (namesR R) x r) ∧ Grows w w' := by
  have hrd := Rd.of_own h.ids
  obtain ⟨A, c, rfl, hnc, hcm⟩ := hrd.form
  unfold maxLen at hcm
  obtain ⟨L, hL⟩ : ∃ L, namesR R = L := ⟨_, rfl⟩
  have hlen : R.length = L.length := by rw [← hL, names_len]
  rw [hL, hlen] at hrd
  rw [hlen] at hnc
  rw [hL]
  have HC := Lib.hid (show w.heap[rb]? = some (.cells #[.slice A L.length c, vs] 46 (0, 0)) from by rw [← hlen]; exact h.cell)
  have HR := Lib.hid hrd
  clear hrd h hL hlen
  unfold idV
  go_enter Try.func30, Try.ntmps30
  go_wp2
  obtain ⟨W0, hW0⟩ : ∃ W, w.alloc (.cells #[.int .i64 x.s.T, .int .i64 x.s.R, .int .i64 x.I] 33) = W := ⟨_, rfl⟩
  have hg : Grows w W0 := by rw [← hW0]; exact (Grows.refl w).alloc _
  have hb1 : W0.heap[w.heap.size]? = some (.cells #[.int .i64 x.s.T, .int .i64 x.s.R, .int .i64 x.I] 33 (0, 0)) := by rw [← hW0]; exact heap_alloc_new w _
  rw [hW0]
  have c0 : W0.cell? ⟨w.heap.size, 0, none⟩ = some (.int .i64 x.s.T) := cell_of_row _ _ 0 _ _ _ hb1
  have c1 : W0.cell? ⟨w.heap.size, 1, none⟩ = some (.int .i64 x.s.R) := cell_of_row _ _ 1 _ _ _ hb1
  have c2 : W0.cell? ⟨w.heap.size, 2, none⟩ = some (.int .i64 x.I) := cell_of_row _ _ 2 _ _ _ hb1
  have HR2 := Lib.hid (HR.out.below' hg.below (Nat.le_refl _))
  have hcr := (hg.below.block rb (Array.getElem?_eq_some_iff.1 HC.out).1).trans HC.out
  have e0 : W0.cell? ⟨rb, 0, none⟩ = some (.slice A L.length c) := cell_of_row _ _ 0 _ _ _ hcr
  clear hW0 hb1 HR HC hcr
  go_loopw [5] (fun i wr => AtRel L x W0 i wr) (fun i _ => L.length - (intOf i).toNat)
  case atStart => exact ⟨0, Nat.zero_le _, rfl, by simp, 0, rfl⟩
  case round =>
    obtain ⟨k, hk, rfl, hno, q, rfl⟩ := hrel
    by_cases hlt : k < L.length
    · obtain ⟨b, o, rfl, hB', hcell⟩ := rd_at idC 3 (fun _ => rfl) (by decide) HR2.out hlt
      have htk := List.take_succ_eq_append_getElem hlt
      obtain ⟨p, hp⟩ : ∃ p, L[k] = p := ⟨_, rfl⟩
      have HPe := Lib.hid hp
      rw [hp] at hcell htk
      have HTK := Lib.hid htk
      have HNO := Lib.hid hno
      have d0 : W0.cell? ⟨b, o + k * 3, none⟩ = some (.int .i64 p.s.T) := hcell 0 _ rfl
      have d1 : W0.cell? ⟨b, o + k * 3 + 1, none⟩ = some (.int .i64 p.s.R) := hcell 1 _ rfl
      have d2 : W0.cell? ⟨b, o + k * 3 + 2, none⟩ = some (.int .i64 p.I) := hcell 2 _ rfl
      have i1 : (0 : Int) ≤ (k : Int) := by omega
      have i2 : (k : Int) < (L.length : Int) := by omega
      have hq := eql26
      have hgd := gd26
      have hE := eq3_id p x
      clear hcell hp htk hno
      by_cases hpx : p = x
      · rw [decide_eq_true hpx] at hE
        have HPX := Lib.hid hpx
        clear hpx
        go_wp2
        go_quiet (fail)
        go_wp2
        go_ret
        exact ⟨⟨_, rfl, .inl ⟨k, hlt, rfl, by rw [HPe.out]; exact HPX.out, HNO.out⟩⟩, hg.trans (((Grows.refl W0).drewN _).drewN _)⟩
      · rw [decide_eq_false hpx] at hE
        have HPX := Lib.hid hpx
        clear hpx
        go_wp2
        go_quiet (fail)
        go_wp2
        go_roundw
        case rel =>
          refine ⟨k + 1, by omega, by go_num, ?_, _, rfl⟩
          rw [HTK.out, List.mem_append, List.mem_singleton]
          rintro (h | h)
          · exact HNO.out h
          · exact HPX.out h.symm
        case measure => simp [intOf]; omega
    · obtain rfl : k = L.length := by omega
      rw [List.take_length] at hno
      have HNO := Lib.hid hno
      clear hno hk
      go_wp2
      go_ret
      exact ⟨⟨_, rfl, .inr ⟨rfl, HNO.out⟩⟩, hg.trans ((Grows.refl W0).drewN _)⟩
set_option maxHeartbeats 2000000 in
theorem rcount_any {w : World} {rb : Nat} {vi vs : Value} {R : Row Id} (h : RfIs w rb vi vs R) (n : Nat) (hn : n ≤ R.length) :
    Calls Try.prog 31 #[.pointer (some ⟨rb, 0, none⟩), .int .i64 (n : Int)] w fun e w' => e = .returned (.int .i64 (cntR (R.take n) : Nat)) ∧ w' = w := by
  have hrd := Rd.of_own h.sn
  obtain ⟨A, c, rfl, hnc, hcm⟩ := hrd.form
  unfold maxLen at hcm
  have HR := Lib.hid hrd
  have e1 : w.cell? ⟨rb, 1, none⟩ = some (.slice A R.length c) := cell_of_row _ _ 1 _ _ _ h.cell
  clear hrd h
  go_enter Try.func31, Try.ntmps31
  go_wp2
  go_loopw [5, 6] (fun se i wr => CtRel n R w se i wr) (fun _ i _ => n - (intOf i).toNat)
  case atStart => exact ⟨0, Nat.zero_le _, rfl, rfl, rfl⟩
  case round =>
    obtain ⟨j, hj, rfl, rfl, rfl⟩ := hrel
    by_cases hlt : j < n
    · have hjR : j < R.length := by omega
      obtain ⟨b, o, rfl, _, hcell⟩ := rd_at boC 1 (fun _ => rfl) (by decide) HR.out (show j < (seenR R).length by rw [seenR_len]; exact hjR)
      have hc0 := hcell 0 _ rfl
      have hsj : (seenR R)[j]'(by rw [seenR_len]; exact hjR) = (R[j]).2 := by simp [seenR]
      rw [hsj] at hc0
      simp only [Nat.mul_one, Nat.add_zero] at hc0
      have hnext := cntR_take_succ hjR
      have hcl := cntR_le (R.take j)
      rw [List.length_take] at hcl
      obtain ⟨q, hq⟩ : ∃ q, cntR (R.take j) = q := ⟨_, rfl⟩
      rw [hq] at hnext hcl
      rw [hq]
      have HNX := Lib.hid hnext
      have i1 : (0 : Int) ≤ (j : Int) := by omega
      have i2 : (j : Int) < (R.length : Int) := by omega
      have i3 : (j : Int) < (n : Int) := by omega
      have wq : IntKind.i64.wrap ((q : Int) + 1) = (q : Int) + 1 := IntWalk.i64_in _ (by omega)
      clear hnext hcell hsj hq hcl
      cases hs : (R[j]).2 with
      | true =>
        rw [hs] at hc0
        have HS := Lib.hid hs
        clear hs
        go_wp2
        go_roundw
        case rel => exact ⟨j + 1, by omega, rfl, by rw [HNX.out, HS.out]; rfl, rfl⟩
        case measure => simp [intOf]; omega
      | false =>
        rw [hs] at hc0
        have HS := Lib.hid hs
        clear hs
        go_wp2
        go_roundw
        case rel => exact ⟨j + 1, by omega, rfl, by rw [HNX.out, HS.out]; rfl, rfl⟩
        case measure => simp [intOf]; omega
    · have i2 : ¬ (j : Int) < (n : Int) := by omega
      go_wp2
      go_ret
      obtain rfl : j = n := by omega
      exact ⟨rfl, rfl⟩
end Go.Proofs.Ytphapjbfaomblaa
