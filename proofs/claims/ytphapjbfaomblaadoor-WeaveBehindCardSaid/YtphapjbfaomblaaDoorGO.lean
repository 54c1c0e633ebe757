/- The laws' at, and Few. -/
import Derived.Test.YtphapjbfaomblaaDoorGA
import Derived.Test.YtphapjbfaomblaaDoorB
import Derived.BigQuiet
namespace Go.Proofs.YtphapjbfaomblaaDoor
open Go Go.RowKit
def AtIs (L : List Id) (x : Id) (r : Int) : Prop := (∃ (k : Nat) (h : k < L.length), r = (k : Int) ∧ L[k] = x ∧ x ∉ L.take k) ∨ (r = -1 ∧ x ∉ L)
def AtRel (L : List Id) (x : Id) (W0 : World) (i : Value) (wr : World) : Prop := ∃ k : Nat, k ≤ L.length ∧ i = .int .i64 k ∧ x ∉ L.take k ∧ ∃ q, wr = W0.drewN q
theorem eq3_id (a b : Id) : eq3 a.s.T a.s.R a.I b.s.T b.s.R b.I = decide (a = b) := eq3_iff a b
set_option maxHeartbeats 2000000 in
theorem at_any (L : List Id) (x : Id) (A : Option Addr) (n c B : Nat) (w : World) (hR : Rd w B 3 (.slice A n c) n (L.flatMap idC)) (hB : B ≤ w.heap.size) :
    Calls Tryd.prog 14 #[.slice A n c, idV x] w fun e w' => (∃ r, e = .returned (.int .i64 r) ∧ AtIs L x r) ∧ Grows w w' := by
  obtain ⟨_, hnc, hcm⟩ := hR.len
  unfold maxLen at hcm
  obtain rfl := len_of idC 3 (fun _ => rfl) (by decide) hR.1
  have HR := Lib.hid hR
  clear hR
  unfold idV
  go_enter Tryd.func14, Tryd.ntmps14
  go_wp2
  obtain ⟨W0, hW0⟩ : ∃ W, w.alloc (.cells #[.int .i64 x.s.T, .int .i64 x.s.R, .int .i64 x.I] 26) = W := ⟨_, rfl⟩
  have hg : Grows w W0 := by rw [← hW0]; exact (Grows.refl w).alloc _
  have hb1 : W0.heap[w.heap.size]? = some (.cells #[.int .i64 x.s.T, .int .i64 x.s.R, .int .i64 x.I] 26 (0, 0)) := by rw [← hW0]; exact heap_alloc_new w _
  rw [hW0]
  have c0 : W0.cell? ⟨w.heap.size, 0, none⟩ = some (.int .i64 x.s.T) := cell_of_row _ _ 0 _ _ _ hb1
  have c1 : W0.cell? ⟨w.heap.size, 1, none⟩ = some (.int .i64 x.s.R) := cell_of_row _ _ 1 _ _ _ hb1
  have c2 : W0.cell? ⟨w.heap.size, 2, none⟩ = some (.int .i64 x.I) := cell_of_row _ _ 2 _ _ _ hb1
  have HR2 := Lib.hid (HR.out.below' hg.below hB)
  clear hW0 hb1 HR
  go_loopw [5] (fun i wr => AtRel L x W0 i wr) (fun i _ => L.length - (intOf i).toNat)
  case atStart => exact ⟨0, Nat.zero_le _, rfl, by simp, 0, rfl⟩
  case round =>
    obtain ⟨k, hk, rfl, hno, q, rfl⟩ := hrel
    by_cases hlt : k < L.length
    · obtain ⟨b, o, rfl, hB', hcell⟩ := rd_at idC 3 (fun _ => rfl) (by decide) HR2.out hlt
      have htk := List.take_succ_eq_append_getElem hlt
      obtain ⟨p, hp⟩ : ∃ p, L[k] = p := ⟨_, rfl⟩
      have HPe := Lib.hid hp
      rw [hp] at hcell htk
      have HTK := Lib.hid htk
      have HNO := Lib.hid hno
      have d0 : W0.cell? ⟨b, o + k * 3, none⟩ = some (.int .i64 p.s.T) := hcell 0 _ rfl
      have d1 : W0.cell? ⟨b, o + k * 3 + 1, none⟩ = some (.int .i64 p.s.R) := hcell 1 _ rfl
      have d2 : W0.cell? ⟨b, o + k * 3 + 2, none⟩ = some (.int .i64 p.I) := hcell 2 _ rfl
      have i1 : (0 : Int) ≤ (k : Int) := by omega
      have i2 : (k : Int) < (L.length : Int) := by omega
      have hq := eql26
      have hgd := gd26
      have hE := eq3_id p x
      clear hcell hp htk hno
      by_cases hpx : p = x
      · rw [decide_eq_true hpx] at hE
        have HPX := Lib.hid hpx
        clear hpx
        go_wp2
        go_quiet (fail)
        go_wp2
        go_ret
        exact ⟨⟨_, rfl, .inl ⟨k, hlt, rfl, by rw [HPe.out]; exact HPX.out, HNO.out⟩⟩, hg.trans (((Grows.refl W0).drewN _).drewN _)⟩
      · rw [decide_eq_false hpx] at hE
        have HPX := Lib.hid hpx
        clear hpx
        go_wp2
        go_quiet (fail)
        go_wp2
        go_roundw
        case rel =>
          refine ⟨k + 1, by omega, by go_num, ?_, _, rfl⟩
          rw [HTK.out, List.mem_append, List.mem_singleton]
          rintro (h | h)
          · exact HNO.out h
          · exact HPX.out h.symm
        case measure => simp [intOf]; omega
    · obtain rfl : k = L.length := by omega
      rw [List.take_length] at hno
      have HNO := Lib.hid hno
      clear hno hk
      go_wp2
      go_ret
      exact ⟨⟨_, rfl, .inr ⟨rfl, HNO.out⟩⟩, hg.trans ((Grows.refl W0).drewN _)⟩
def FwRel (R : List Rn) (m : Nat) (w : World) (i : Value) (wr : World) : Prop := ∃ k : Nat, k ≤ R.length ∧ k ≤ m + 1 ∧ i = .int .i64 k ∧ (∀ r ∈ R.take k, r.tx.size ≤ 40) ∧ wr = w
set_option maxRecDepth 100000 in
set_option maxHeartbeats 2000000 in
theorem few_any (R : List Rn) (m : Nat) (hm : m ≤ 1000) (A : Option Addr) (n c B : Nat) (w : World) (hR : Rd w B 7 (.slice A n c) n (R.flatMap rnC)) :
    Calls Tryd.prog 12 #[.slice A n c, .int .i64 (m : Int)] w fun e w' => (∃ b, e = .returned (.bool b) ∧ (b = true → R.length ≤ m ∧ ∀ r ∈ R, r.tx.size ≤ 40)) ∧ w' = w := by
  obtain ⟨_, hnc, hcm⟩ := hR.len
  unfold maxLen at hcm
  obtain rfl := len_of rnC 7 (fun _ => rfl) (by decide) hR.1
  have HR := Lib.hid hR
  clear hR
  go_enter Tryd.func12, Tryd.ntmps12
  go_wp2
  go_loopw [5] (fun i wr => FwRel R m w i wr) (fun i _ => R.length - (intOf i).toNat)
  case atStart => exact ⟨0, Nat.zero_le _, Nat.zero_le _, rfl, by simp, rfl⟩
  case round =>
    obtain ⟨k, hk, hkm, rfl, hno, hwr⟩ := hrel
    subst hwr
    obtain ⟨wo, rfl⟩ : ∃ wo : World, wo = wr := ⟨_, rfl⟩
    have HNO := Lib.hid hno
    clear hno
    by_cases hlt : k < R.length
    · by_cases hlm : k ≤ m
      · obtain ⟨b, o, rfl, hB', hcell⟩ := rd_at rnC 7 (fun _ => rfl) (by decide) HR.out hlt
        have htk := List.take_succ_eq_append_getElem hlt
        obtain ⟨r, hr⟩ : ∃ r, R[k] = r := ⟨_, rfl⟩
        rw [hr] at hcell htk
        have HTK := Lib.hid htk
        have d6 : wo.cell? ⟨b, o + k * 7 + 6, none⟩ = some (.string r.tx) := hcell 6 _ rfl
        have i1 : (0 : Int) ≤ (k : Int) := by omega
        have i2 : (k : Int) < (R.length : Int) := by omega
        have i3 : (k : Int) ≤ (m : Int) := by omega
        clear hcell hr htk
        by_cases h40 : r.tx.size ≤ 40
        · have h4 : ((r.tx.size : Nat) : Int) ≤ 40 := by omega
          go_wp2
          go_roundw
          case rel =>
            refine ⟨k + 1, by omega, by omega, by go_num, ?_, rfl⟩
            rw [HTK.out]
            intro x hx
            rcases List.mem_append.1 hx with hx | hx
            · exact HNO.out x hx
            · rw [List.mem_singleton] at hx; rw [hx]; exact h40
          case measure => simp [intOf]; omega
        · have h4 : (40 : Int) < ((r.tx.size : Nat) : Int) := by omega
          go_wp2
          go_ret
          exact ⟨⟨_, rfl, fun h => by cases h⟩, rfl⟩
      · have i3 : (m : Int) < (k : Int) := by omega
        have i4 : (m : Int) < (R.length : Int) := by omega
        go_wp2
        go_ret
        exact ⟨⟨_, rfl, fun h => by simp at h; omega⟩, rfl⟩
    · obtain rfl : k = R.length := by omega
      rw [List.take_length] at HNO
      go_wp2
      go_ret
      exact ⟨⟨_, rfl, fun h => ⟨by simpa using h, HNO.out⟩⟩, rfl⟩
end Go.Proofs.YtphapjbfaomblaaDoor
