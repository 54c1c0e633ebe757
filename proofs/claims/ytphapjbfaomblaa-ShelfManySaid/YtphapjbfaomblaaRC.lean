/- The document's shelf: Find. -/
import Derived.Test.YtphapjbfaomblaaRB
namespace Go.Proofs.Ytphapjbfaomblaa
open Go Go.RowKit Go.Maps
theorem cnt_hits : ∀ (R : Row Id) (k : Nat), k < cntR R → ∃ i, ∃ h : i < R.length, (R[i]).2 = true ∧ cntR (R.take i) = k
  | [], k, h => by simp [cntR] at h
  | p :: R, k, h => by
    rw [cntR_cons] at h
    cases hp : p.2 with
    | true =>
      cases k with
      | zero => exact ⟨0, by simp, hp, rfl⟩
      | succ k =>
        obtain ⟨i, hi, h1, h2⟩ := cnt_hits R k (by rw [hp] at h; simp at h; omega)
        exact ⟨i + 1, by simpa using hi, by simpa using h1, by rw [List.take_succ_cons, cntR_cons, hp, h2]; simp; omega⟩
    | false =>
      obtain ⟨i, hi, h1, h2⟩ := cnt_hits R k (by rw [hp] at h; simpa using h)
      exact ⟨i + 1, by simpa using hi, by simpa using h1, by rw [List.take_succ_cons, cntR_cons, hp, h2]; simp⟩
def Miss (R : Row Id) (k : Int) (j : Nat) : Prop := ∀ i (h : i < R.length), i < j → (R[i]).2 = true → ((cntR (R.take i) : Nat) : Int) ≠ k
theorem findV_miss {R : Row Id} {k : Int} (h : k < 0 ∨ Miss R k R.length) : findV R k = (zeroI, 100) := by
  refine findV_none ?_
  by_cases hk : k < 0
  · rw [if_pos hk]
  · rw [if_neg hk]
    refine findR_none _ _ ?_
    rcases h with h | h
    · exact absurd h hk
    · rcases Nat.lt_or_ge k.toNat (cntR R) with h2 | h2
      · obtain ⟨i, hi, h3, h4⟩ := cnt_hits R _ h2
        exact absurd (show ((cntR (R.take i) : Nat) : Int) = k by omega) (h i hi hi h3)
      · exact h2
theorem findV_hit {R : Row Id} {k : Int} {j : Nat} (hj : j < R.length) (hs : (R[j]).2 = true) (hk : ((cntR (R.take j) : Nat) : Int) = k) : findV R k = ((R[j]).1, 0) := by
  refine findV_some ?_
  rw [if_neg (by omega), show k.toNat = cntR (R.take j) by omega]
  exact findR_at hj hs
def RfRel (R : Row Id) (k : Int) (W0 : World) (i : Value) (wr : World) : Prop := ∃ j : Nat, j ≤ R.length ∧ i = .int .i64 j ∧ Miss R k j ∧ wr = W0
theorem Miss.step {R : Row Id} {k : Int} {j : Nat} (h : Miss R k j) (hj : j < R.length) (hn : ¬ ((R[j]).2 = true ∧ ((cntR (R.take j) : Nat) : Int) = k)) : Miss R k (j + 1) := fun i hi hij hs => by
  rcases Nat.lt_or_ge i j with h2 | h2
  · exact h i hi h2 hs
  · obtain rfl : i = j := by omega
    exact fun e => hn ⟨hs, e⟩
set_option maxHeartbeats 2000000 in
theorem rfind_any {w : World} {rb : Nat} {vi vs : Value} {R : Row Id} (h : RfIs w rb vi vs R) (k : Int) :
    Calls Try.prog 20 #[.pointer (some ⟨rb, 0, none⟩), .int .i64 k] w (FindPost R k w) := by
  obtain ⟨W0, hW0⟩ : ∃ W, w.alloc (.cells #[.int .i64 0, .int .i64 0, .int .i64 0] 33) = W := ⟨_, rfl⟩
  have hb0 : Below w.heap.size w W0 := by rw [← hW0]; exact (Below.refl _ w).alloc (Nat.le_refl _) _
  have hx0 : W0.heap[w.heap.size]? = some (.cells #[.int .i64 0, .int .i64 0, .int .i64 0] 33 (0, 0)) := by rw [← hW0]; exact heap_alloc_new w _
  have h0 := h.below hb0
  have HCT := Lib.hid (fun n hn => rcount_any h0 n hn)
  obtain ⟨A, c, rfl, hnc, hcm⟩ := (Rd.of_own h0.ids).form
  obtain ⟨As, cs, rfl, hnc2, hcm2⟩ := (Rd.of_own h0.sn).form
  unfold maxLen at hcm hcm2
  have HRI := Lib.hid (Rd.of_own h0.ids)
  have HRS := Lib.hid (Rd.of_own h0.sn)
  have e0 : W0.cell? ⟨rb, 0, none⟩ = some (.slice A R.length c) := cell_of_row _ _ 0 _ _ _ h0.cell
  have e1 : W0.cell? ⟨rb, 1, none⟩ = some (.slice As R.length cs) := cell_of_row _ _ 1 _ _ _ h0.cell
  have hrb : rb ≠ w.heap.size := fun e => by
    have := (Array.getElem?_eq_some_iff.1 h.cell).1
    omega
  obtain ⟨bx, hbx⟩ : ∃ z, w.heap.size = z := ⟨_, rfl⟩
  rw [hbx] at hx0
  have z0 : W0.cell? ⟨bx, 0, none⟩ = some (.int .i64 0) := cell_of_row _ _ 0 _ _ _ hx0
  have z1 : W0.cell? ⟨bx, 1, none⟩ = some (.int .i64 0) := cell_of_row _ _ 1 _ _ _ hx0
  have z2 : W0.cell? ⟨bx, 2, none⟩ = some (.int .i64 0) := cell_of_row _ _ 2 _ _ _ hx0
  have zf : ∀ i, W0.frozen? ⟨bx, i, none⟩ = false := fun i => by simp [World.frozen?, hx0]
  have HX0 := Lib.hid hx0
  have HB0 := Lib.hid hb0
  have HW0 := Lib.hid hW0
  have HBX := Lib.hid hbx
  have HLE := Lib.hid (Nat.le_of_eq hbx)
  clear h h0 hb0 hx0 hW0 hbx hrb
  go_enter Try.func20, Try.ntmps20
  go_wp2
  rw [HW0.out, HBX.out]
  go_loopw [6] (fun i wr => RfRel R k W0 i wr) (fun i _ => R.length - (intOf i).toNat)
  case atStart => exact ⟨0, Nat.zero_le _, rfl, fun i _ h _ => absurd h (Nat.not_lt_zero i), rfl⟩
  case round =>
    obtain ⟨j, hj, rfl, hm, rfl⟩ := hrel
    have HM := Lib.hid hm
    clear hm
    by_cases hgo : j < R.length ∧ ¬ k < 0
    · obtain ⟨hjR, hk0⟩ := hgo
      have i1 : (0 : Int) ≤ (j : Int) := by omega
      have i2 : (j : Int) < (R.length : Int) := by omega
      have i3 : (0 : Int) ≤ k := by omega
      obtain ⟨b, o, rfl, hBb, hcell⟩ := rd_at boC 1 (fun _ => rfl) (by decide) HRS.out (show j < (seenR R).length by rw [seenR_len]; exact hjR)
      have hc0 := hcell 0 _ rfl
      have hsj : (seenR R)[j]'(by rw [seenR_len]; exact hjR) = (R[j]).2 := by simp [seenR]
      rw [hsj] at hc0
      simp only [Nat.mul_one, Nat.add_zero] at hc0
      obtain ⟨b2, o2, rfl, hBb2, hcell2⟩ := rd_at idC 3 (fun _ => rfl) (by decide) HRI.out (show j < (namesR R).length by rw [names_len]; exact hjR)
      have hyN : (namesR R)[j]'(by rw [names_len]; exact hjR) = (R[j]).1 := by simp [namesR]
      rw [hyN] at hcell2
      have hstep := fun hn => HM.out.step hjR hn
      have hhit := fun hs hk => findV_hit (k := k) hjR hs hk
      obtain ⟨y, hy⟩ : ∃ y, (R[j]).1 = y := ⟨_, rfl⟩
      rw [hy] at hcell2 hhit
      have d0 : wr.cell? ⟨b2, o2 + j * 3, none⟩ = some (.int .i64 y.s.T) := hcell2 0 _ rfl
      have d1 : wr.cell? ⟨b2, o2 + j * 3 + 1, none⟩ = some (.int .i64 y.s.R) := hcell2 1 _ rfl
      have d2 : wr.cell? ⟨b2, o2 + j * 3 + 2, none⟩ = some (.int .i64 y.I) := hcell2 2 _ rfl
      have HST := Lib.hid hstep
      have HHT := Lib.hid hhit
      have HC1 := Lib.hid (HCT.out j (Nat.le_of_lt hjR))
      clear hcell hcell2 hsj hyN hstep hhit hy
      cases hs : (R[j]).2 with
      | false =>
        rw [hs] at hc0
        have HS := Lib.hid hs
        clear hs
        go_wp2_with fail
        go_roundw
        case rel => exact ⟨j + 1, by omega, rfl, HST.out (fun h => by rw [HS.out] at h; exact absurd h.1 (by decide)), rfl⟩
        case measure => simp [intOf]; omega
      | true =>
        rw [hs] at hc0
        have HS := Lib.hid hs
        clear hs
        by_cases hk : ((cntR (R.take j) : Nat) : Int) = k
        · have HV := Lib.hid (HHT.out HS.out hk)
          have HK := Lib.hid hk
          rw [hk] at HC1
          clear hk
          have hE := Lib.hid (set3_heap (v := .int .i64 y.s.T) (u := .int .i64 y.s.R) (z := .int .i64 y.I) HX0.out)
          go_wp2_with (go_at_call 31; refine HC1.out.mono ?_; rintro e w5 ⟨rfl, rfl⟩)
          refine bodyPost_ret (results_cell_row1 rfl _ _ bx 33 #[.int .i64 y.s.T, .int .i64 y.s.R, .int .i64 y.I] (0, 0) _ rfl hE.out Try.underlying33 rfl (by kernel_rfl)) rfl ?_
          unfold FindPost
          rw [HV.out]
          exact ⟨rfl, ((HB0.out.setCell (p := ⟨bx, 0, none⟩) HLE.out _).setCell (p := ⟨bx, 1, none⟩) HLE.out _).setCell (p := ⟨bx, 2, none⟩) HLE.out _⟩
        · have hm := HST.out (fun h => hk h.2)
          have HM1 := Lib.hid hm
          clear hm
          go_wp2_with (go_at_call 31; refine HC1.out.mono ?_; rintro e w5 ⟨rfl, rfl⟩)
          go_roundw
          case rel => exact ⟨j + 1, by omega, rfl, HM1.out, rfl⟩
          case measure => simp [intOf]; omega
    · have hV : findV R k = (zeroI, 100) := findV_miss (by
        by_cases hk : k < 0
        · exact .inl hk
        · obtain rfl : j = R.length := by omega
          exact .inr HM.out)
      have HV := Lib.hid hV
      have hE := Lib.hid (set3_heap (v := .int .i64 0) (u := .int .i64 0) (z := .int .i64 0) HX0.out)
      have hout : (¬ (j : Int) < (R.length : Int)) ∨ ((j : Int) < (R.length : Int) ∧ ¬ 0 ≤ k) := by omega
      clear hV hgo
      rcases hout with i2 | ⟨i2, i3⟩
      all_goals
        go_wp2
        refine bodyPost_ret (results_cell_row1 rfl _ _ bx 33 #[.int .i64 0, .int .i64 0, .int .i64 0] (0, 0) _ rfl (by first | exact hE.out | exact HX0.out) Try.underlying33 rfl (by kernel_rfl)) rfl ?_
        unfold FindPost
        rw [HV.out]
        first
          | exact ⟨rfl, ((HB0.out.setCell (p := ⟨bx, 0, none⟩) HLE.out _).setCell (p := ⟨bx, 1, none⟩) HLE.out _).setCell (p := ⟨bx, 2, none⟩) HLE.out _⟩
          | exact ⟨rfl, HB0.out⟩
end Go.Proofs.Ytphapjbfaomblaa
