/- The statement's own walk: where a name is. -/
import Derived.Test.YtdkkfjcbdokdjaaDoorL2
namespace Go.Proofs.YtdkkfjcbdokdjaaDoor
open Go.RowKit
theorem rd_nums {w : World} {B n : Nat} {v : Value} {xs : List Nat} (h : Rd w B 1 v n (nums xs)) (hx : xs.length = n) : ∃ A c, v = .slice A n c ∧ ∀ k (hk : k < n), ∃ b o, A = some ⟨b, o, none⟩ ∧ w.cell? ⟨b, o + k, none⟩ = some (.int .i64 (xs[k]'(by omega) : Nat)) := by
  obtain ⟨A, c, rfl, _⟩ := h.form
  refine ⟨A, c, rfl, fun k hk => ?_⟩
  obtain ⟨b, o, e, _, hc⟩ := h.cells (by omega)
  exact ⟨b, o, e, hc k _ (by simp [nums, show k < xs.length by omega])⟩
set_option maxHeartbeats 4000000 in
theorem law_finds (s nm : ByteArray) (w : World) (hs : s.size ≤ 9223372036854775807) (hn : nm.size ≤ 9223372036854775807) (hT : Tabs w) :
    Calls Tryd.prog 4 #[.string s, .string nm] w fun e w' => e = .returned (.bool true) ∧ Below w.heap.size w w' := by
  by_cases hbig : 1000 < s.size ∨ 1000 < nm.size
  · by_cases h1 : 1000 < s.size
    all_goals try have h3 : 1000 < nm.size := by omega
    all_goals
      clear hbig
      go_enter Tryd.func4, Tryd.ntmps4
      go_wp2_with fail
      refine (awake_any _ hT).mono ?_
      rintro e w1 ⟨rfl, hb1⟩
      go_wp2
      go_ret
      exact ⟨rfl, hb1⟩
  · have h1 : s.size ≤ 1000 := by omega
    have h2 : nm.size ≤ 1000 := by omega
    clear hbig
    have hnl : nm.data.toList.length ≤ 1000 := by rw [← Lib.size_eq]; omega
    have ci1 := fun w => ident_any nm.data.toList w (by omega)
    have ci2 := fun w => rident_any nm.data.toList w (by omega)
    rw [ofL_data] at ci1 ci2
    -- the two answers that are none
    have none : ∀ x : Int, (x = 60 ∨ x = 61) → (∀ w, Tabs w → Calls Tryd.prog 15 #[.string s, .string nm] w fun e w' => e = .returned (.tuple #[.slice none 0 0, .slice none 0 0, .int .i64 x]) ∧ Below w.heap.size w w') →
        (∀ w, Calls Tryd.prog 16 #[.string s, .string nm] w fun e w' => e = .returned (.tuple #[.slice none 0 0, .int .i64 x]) ∧ Below w.heap.size w w') →
        Calls Tryd.prog 4 #[.string s, .string nm] w fun e w' => e = .returned (.bool true) ∧ Below w.heap.size w w' := by
      intro x hx c1 c2
      have C1 := Lib.hid c1
      have C2 := Lib.hid c2
      have CI1 := Lib.hid ci1
      have CI2 := Lib.hid ci2
      obtain ⟨I, hI⟩ : ∃ I, identL nm.data.toList = I := ⟨_, rfl⟩
      rw [hI] at CI1 CI2
      clear c1 c2 ci1 ci2 hI
      rcases hx with rfl | rfl
      all_goals
        go_enter Tryd.func4, Tryd.ntmps4
        go_wp2_with fail
        refine (C1.out _ hT).mono ?_
        rintro e w1 ⟨rfl, hb1⟩
        go_wp2_with fail
        refine (C2.out _).mono ?_
        rintro e w2 ⟨rfl, hb2⟩
        have hT2 := (hT.below hb1).below hb2
        have hbw2 := hb1.trans (hb2.mono hb1.size)
        clear hb1 hb2
        go_wp2
        go_loop [10] (fun vi => vi = .int .i64 0) (fun _ => 0)
        case atStart => rfl
        case round =>
          subst hrel
          go_wp2_with fail
          refine (awake_any _ hT2).mono ?_
          rintro e w5 ⟨rfl, hb5⟩
          have hbw5 := hbw2.trans (hb5.mono hbw2.size)
          clear hb5 hbw2
          go_wp2_with fail
          refine (CI1.out _).mono ?_
          rintro e w6 ⟨rfl, hb6⟩
          have hbw6 := hbw5.trans (hb6.mono hbw5.size)
          clear hb6 hbw5
          go_wp2_with fail
          refine (CI2.out _).mono ?_
          rintro e w7 ⟨rfl, rfl⟩
          go_wp2
          go_ret
          exact ⟨ret_bool' (by simp), hbw6⟩
    rcases texts s with ⟨ps, hps, rfl⟩ | ⟨hv, he⟩
    · have hl : ps.flatten.length ≤ 1000 := by rw [ofL_size] at h1; omega
      cases hid : identL nm.data.toList
      · refine none 61 (.inr rfl) (fun w hT => ?_) (fun w => ?_)
        · rw [← ofL_data nm]; exact find_no ps hps _ hid w (by omega) (by omega) hT
        · rw [← ofL_data nm]; exact rfind_no ps hps _ hid w (by omega) (by omega)
      · clear none
        have c1 := fun w hT => find_ok ps hps _ hid w (by omega) (by omega) hT
        have c2 := fun w => rfind_ok ps hps _ hid w (by omega) (by omega)
        rw [hid] at ci1 ci2
        rw [ofL_data] at c1 c2
        obtain ⟨L, hL⟩ : ∃ L, findOf ps nm.data.toList = L := ⟨_, rfl⟩
        rw [hL] at c1 c2
        have hrl := rising_len (((runs_rising ps).filter (fun r => word ps r == nm.data.toList))) (Nat.zero_le _)
        have hpl := length_le_flatten ps hps
        have hb1 : L.length ≤ 1000 := by rw [← hL]; unfold findOf; omega
        have C1 := Lib.hid c1
        have C2 := Lib.hid c2
        have CI1 := Lib.hid ci1
        have CI2 := Lib.hid ci2
        obtain ⟨s, hss⟩ : ∃ s, ofL ps.flatten = s := ⟨_, rfl⟩
        rw [hss] at C1 C2 h1 hs ⊢
        clear c1 c2 ci1 ci2 hL hrl hpl hid hss hnl
        go_enter Tryd.func4, Tryd.ntmps4
        go_wp2_with fail
        refine (C1.out _ hT).mono ?_
        rintro e w1 ⟨v1, v2, rfl, ho1, ho2, hb1⟩
        go_wp2_with fail
        refine (C2.out _).mono ?_
        rintro e w2 ⟨v3, rfl, ho3, hb2⟩
        have hT2 := (hT.below hb1).below hb2
        have hbw2 := hb1.trans (hb2.mono hb1.size)
        have r1 := Rd.of_own (own_below ho1 hb2)
        have r2 := Rd.of_own (own_below ho2 hb2)
        have r3 := Rd.of_own ho3
        obtain ⟨A1, d1, rfl, k1⟩ := rd_nums r1 (by simp)
        obtain ⟨A2, d2, rfl, k2⟩ := rd_nums r2 (by simp)
        obtain ⟨A3, d3, rfl, _⟩ := r3.form
        have K1 := Lib.hid k1
        have K2 := Lib.hid k2
        have K3 := Lib.hid r3
        clear r1 r2 r3 ho1 ho2 ho3 hb1 hb2 k1 k2 hT C1 C2
        go_wp2
        go_loopw [10] (fun vi wr => ∃ k : Nat, k ≤ L.length ∧ vi = .int .i64 (k : Nat) ∧ ∃ q, wr = w2.drewN q) (fun vi _ => L.length - (intOf vi).toNat)
        case atStart => exact ⟨0, Nat.zero_le _, rfl, 0, rfl⟩
        case round =>
          obtain ⟨k, hk, rfl, q, rfl⟩ := hrel
          by_cases hlt : k < L.length
          · obtain ⟨b1, o1, rfl, e1⟩ := K1.out k hlt
            obtain ⟨b2, o2, rfl, e2⟩ := K2.out k hlt
            obtain ⟨b3, o3, rfl, _, hc3⟩ := K3.out.cells (by omega)
            have hg := cells2_get L k hlt
            have e3 := hc3 _ _ hg.1
            have e4 := hc3 _ _ hg.2
            rw [← Nat.add_assoc] at e4
            rw [List.getElem_map] at e1 e2
            obtain ⟨r, hr⟩ : ∃ r, L[k] = r := ⟨_, rfl⟩
            rw [hr] at e1 e2 e3 e4
            have i0 : (0 : Int) ≤ (k : Nat) := by omega
            have i1 : ((k : Nat) : Int) < (L.length : Nat) := by omega
            clear hc3 hg hr
            go_wp2
            go_quiet (fail)
            go_wp2
            go_roundw
            case rel => exact ⟨k + 1, by omega, by go_num, _, rfl⟩
            case measure => simp [intOf]; omega
          · have hT3 : Tabs (w2.drewN q) := hT2.below (below_drewN (Below.refl _ _) _)
            have hbw3 := below_drewN hbw2 q
            clear hT2 hbw2
            go_wp2_with fail
            refine (awake_any _ hT3).mono ?_
            rintro e w5 ⟨rfl, hb5⟩
            have hbw5 := hbw3.trans (hb5.mono hbw3.size)
            clear hb5 hbw3
            go_wp2_with fail
            refine (CI1.out _).mono ?_
            rintro e w6 ⟨rfl, hb6⟩
            have hbw6 := hbw5.trans (hb6.mono hbw5.size)
            clear hb6 hbw5
            go_wp2_with fail
            refine (CI2.out _).mono ?_
            rintro e w7 ⟨rfl, rfl⟩
            go_wp2
            go_ret
            exact ⟨ret_bool' (by simp), hbw6⟩
    · have hl : s.data.toList.length ≤ 1000 := by rw [← Lib.size_eq]; omega
      refine none 60 (.inl rfl) (fun w hT => ?_) (fun w => ?_)
      · rw [he, ← ofL_data nm]; exact find_bad _ _ hv w (by omega) hT
      · rw [he, ← ofL_data nm]; exact rfind_bad _ _ hv w (by omega)
end Go.Proofs.YtdkkfjcbdokdjaaDoor
