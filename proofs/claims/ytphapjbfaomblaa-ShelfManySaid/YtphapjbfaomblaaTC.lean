/- The law ShelfPlays, walked. -/
import Derived.Test.YtphapjbfaomblaaTB
import Derived.Test.YtphapjbfaomblaaSJ
namespace Go.Proofs.Ytphapjbfaomblaa
open Go Go.RowKit Go.Maps
def PyRel (n : Nat) (w1 : World) (sb rb : Nat) (i : Value) (wr : World) : Prop := ∃ (k : Nat) (R : Row Id), k ≤ n ∧ k ≤ 300 ∧ i = .int .i64 k ∧ Both w1 (fun _ => False) sb rb R R wr ∧ R.length ≤ k
set_option maxRecDepth 100000 in
set_option maxHeartbeats 4000000 in
theorem plays_walk (L : List Ac) (A : Option Addr) (n c : Nat) (w : World) (hR : Rd w w.heap.size 6 (.slice A n c) n (L.flatMap acC)) (hn : L.length = n) :
    Calls Try.prog 4 #[.slice A n c] w fun e w' => e = .returned (.bool true) ∧ Below w.heap.size w w' := by
  have HR := Lib.hid (fun W (hW : Below w.heap.size w W) => hR.below' hW (Nat.le_refl _))
  clear hR
  go_enter Try.func4, Try.ntmps4
  go_wp2_with fail
  refine (awake_any w).mono ?_
  rintro e w1 ⟨rfl, hb1⟩
  have HB1 := Lib.hid hb1
  clear hb1
  go_wp2_with fail
  refine (Aw.new w1).mono ?_
  rintro e w2 ⟨sb, rfl, h2⟩
  have h3 := Both.start h2
  clear h2
  obtain ⟨rb, hrb⟩ : ∃ r, w2.heap.size = r := ⟨_, rfl⟩
  obtain ⟨w3, hw3⟩ : ∃ W, w2.alloc (.cells #[.slice none 0 0, .slice none 0 0] 46) = W := ⟨_, rfl⟩
  rw [hrb, hw3] at h3
  have H3 := Lib.hid h3
  have HRB := Lib.hid hrb
  have HW3 := Lib.hid hw3
  clear h3 hrb hw3
  go_wp2_with fail
  rw [HW3.out, HRB.out]
  go_loopw [6] (fun i wr => PyRel n w1 sb rb i wr) (fun i _ => n - (intOf i).toNat)
  case atStart => exact ⟨0, [], Nat.zero_le _, Nat.zero_le _, rfl, H3.out, Nat.le_refl _⟩
  case round =>
    obtain ⟨k, R, hk, hk3, rfl, hB, hl⟩ := hrel
    have HB := Lib.hid hB
    have hbo := hB.out
    clear hB
    by_cases hlt : k < n ∧ k < 300
    · obtain ⟨hl1, hl2⟩ := hlt
      obtain ⟨b, o, rfl, hBb, hcell⟩ := rd_at acC 6 (fun _ => rfl) (by decide) (HR.out wr (HB1.out.trans (hbo.mono HB1.out.size))) (show k < L.length by omega)
      obtain ⟨x, hxe⟩ : ∃ x, L[k] = x := ⟨_, rfl⟩
      rw [hxe] at hcell
      have c0 := hcell 0 _ rfl
      have c1 := hcell 1 _ rfl
      have c2 := hcell 2 _ rfl
      have c3 := hcell 3 _ rfl
      have c4 := hcell 4 _ rfl
      have c5 := hcell 5 _ rfl
      simp only [Nat.add_zero] at c0
      have i1 : (0 : Int) ≤ (k : Int) := by omega
      have i2 : (k : Int) < (n : Int) := by omega
      have i3 : (k : Int) < 300 := by omega
      clear hcell hxe hbo
      go_wp2_with (go_at_call 15; refine (same_any HB.out (by omega) x.what x.at_ x.x x.q).mono ?_; rintro e w5 ⟨rfl, R', h5, hl5⟩)
      go_roundw
      case rel => exact ⟨k + 1, R', by omega, by omega, by go_num, h5, by omega⟩
      case measure => simp [intOf]; omega
    · have hi : ¬ ((k : Int) < (n : Int)) ∨ ¬ ((k : Int) < 300) := by omega
      have hRl : R.length ≤ 100000 := by omega
      have hfin : ∀ e w', e = Ending.returned (.bool true) → Below w1.heap.size w1 w' → (e = Ending.returned (.bool true) ∧ Below w.heap.size w w') := fun e w' h1 h2 => ⟨h1, HB1.out.trans (h2.mono HB1.out.size)⟩
      have HF := Lib.hid hfin
      clear hlt hbo hfin
      rcases Nat.lt_or_ge k n with hkn | hkn
      · have i1 : (k : Int) < (n : Int) := by omega
        have i2 : ¬ (k : Int) < 300 := by omega
        clear hi
        go_wp2_with (first
          | (go_at_call 16; refine (sameId_self (listR R true) A3 A4 _ c3 _ c4 w9.heap.size w9 ((hR8.below' hb9 (Nat.le_refl _)).more hb9.size) hR9).mono ?_; rintro e wx ⟨rfl, gx⟩)
          | (go_at_call 17; refine (h8.rlist hRl true).mono ?_; rintro e w9 ⟨A4, c4, rfl, hR9, h9, hb9⟩)
          | (go_at_call 11; refine (h7.slist hRl true).mono ?_; rintro e w8 ⟨A3, c3, rfl, hR8, h8, hb8⟩)
          | (go_at_call 16; refine (sameId_self (listR R false) A1 A2 _ c1 _ c2 w6.heap.size w6 ((hR5.below' hb6 (Nat.le_refl _)).more hb6.size) hR6).mono ?_; rintro e w7 ⟨rfl, g7⟩; have h7 := h6.below g7.below)
          | (go_at_call 17; refine (h5.rlist hRl false).mono ?_; rintro e w6 ⟨A2, c2, rfl, hR6, h6, hb6⟩)
          | (go_at_call 11; refine (HB.out.slist hRl false).mono ?_; rintro e w5 ⟨A1, c1, rfl, hR5, h5, hb5⟩))
        go_ret
        exact HF.out _ _ rfl (h9.below gx.below).out
      · have i1 : ¬ (k : Int) < (n : Int) := by omega
        clear hi
        go_wp2_with (first
          | (go_at_call 16; refine (sameId_self (listR R true) A3 A4 _ c3 _ c4 w9.heap.size w9 ((hR8.below' hb9 (Nat.le_refl _)).more hb9.size) hR9).mono ?_; rintro e wx ⟨rfl, gx⟩)
          | (go_at_call 17; refine (h8.rlist hRl true).mono ?_; rintro e w9 ⟨A4, c4, rfl, hR9, h9, hb9⟩)
          | (go_at_call 11; refine (h7.slist hRl true).mono ?_; rintro e w8 ⟨A3, c3, rfl, hR8, h8, hb8⟩)
          | (go_at_call 16; refine (sameId_self (listR R false) A1 A2 _ c1 _ c2 w6.heap.size w6 ((hR5.below' hb6 (Nat.le_refl _)).more hb6.size) hR6).mono ?_; rintro e w7 ⟨rfl, g7⟩; have h7 := h6.below g7.below)
          | (go_at_call 17; refine (h5.rlist hRl false).mono ?_; rintro e w6 ⟨A2, c2, rfl, hR6, h6, hb6⟩)
          | (go_at_call 11; refine (HB.out.slist hRl false).mono ?_; rintro e w5 ⟨A1, c1, rfl, hR5, h5, hb5⟩))
        go_ret
        exact HF.out _ _ rfl (h9.below gx.below).out
end Go.Proofs.Ytphapjbfaomblaa
