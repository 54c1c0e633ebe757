/- The statements' own walks: cutting, putting, replacing: each law returns true. -/
import Derived.Test.YtdkkfjcbdokdjaaDoorL1
namespace Go.Proofs.YtdkkfjcbdokdjaaDoor
open Go.RowKit
theorem empty_eq : (Value.string ⟨#[]⟩) = .string (ofL []) := rfl
/-- the program's part of a text and the document's are one -/
theorem cut_both (s : ByteArray) (hs : s.size ≤ 3000) (a b : Int) (ha1 : -9223372036854775808 ≤ a) (ha2 : a ≤ 9223372036854775807) (hb1 : -9223372036854775808 ≤ b) (hb2 : b ≤ 9223372036854775807) :
    ∃ t x, (∀ w, Tabs w → Calls Tryd.prog 21 #[.string s, .int .i64 a, .int .i64 b] w fun e w' => e = .returned (.tuple #[.string t, .int .i64 x]) ∧ Below w.heap.size w w') ∧
      (∀ w, Calls Tryd.prog 22 #[.string s, .int .i64 a, .int .i64 b] w fun e w' => e = .returned (.tuple #[.string t, .int .i64 x]) ∧ Below w.heap.size w w') := by
  rcases texts s with ⟨ps, hps, rfl⟩ | ⟨hv, he⟩
  · have hl : ps.flatten.length ≤ 3000 := by rw [ofL_size] at hs; omega
    by_cases hin : 0 ≤ a ∧ a ≤ b ∧ b ≤ ps.length
    · obtain ⟨i, rfl⟩ := Int.eq_ofNat_of_zero_le hin.1
      obtain ⟨k, rfl⟩ := Int.eq_ofNat_of_zero_le (show 0 ≤ b by omega)
      exact ⟨_, _, fun w hT => cut_in ps hps i k (by omega) (by omega) w (by omega) hT, fun w => rcut_in ps hps i k (by omega) (by omega) w (by omega)⟩
    · exact ⟨_, _, fun w hT => cut_out ps hps a b hin w (by omega) hT ha1 ha2 hb1 hb2, fun w => rcut_out ps hps a b hin w (by omega) ha1 ha2 hb1 hb2⟩
  · have hl : s.data.toList.length ≤ 3000 := by rw [← Lib.size_eq]; omega
    rw [he]
    exact ⟨_, _, fun w hT => cut_bad _ hv a b w (by omega) hT, fun w => rcut_bad _ hv a b w (by omega)⟩
theorem put_both (s m : ByteArray) (hs : s.size ≤ 3000) (hm : m.size ≤ 3000) (a : Int) (ha1 : -9223372036854775808 ≤ a) (ha2 : a ≤ 9223372036854775807) :
    ∃ t x, (∀ w, Tabs w → Calls Tryd.prog 23 #[.string s, .int .i64 a, .string m] w fun e w' => e = .returned (.tuple #[.string t, .int .i64 x]) ∧ Below w.heap.size w w') ∧
      (∀ w, Calls Tryd.prog 24 #[.string s, .int .i64 a, .string m] w fun e w' => e = .returned (.tuple #[.string t, .int .i64 x]) ∧ Below w.heap.size w w') := by
  have hml : m.data.toList.length ≤ 3000 := by rw [← Lib.size_eq]; omega
  rcases texts s with ⟨ps, hps, rfl⟩ | ⟨hv, he⟩
  · have hl : ps.flatten.length ≤ 3000 := by rw [ofL_size] at hs; omega
    rcases texts m with ⟨qs, hqs, rfl⟩ | ⟨hv, he⟩
    · have hl2 : qs.flatten.length ≤ 3000 := by rw [ofL_size] at hm; omega
      rcases at_range ps a with ⟨i, rfl, hi⟩ | ha
      · exact ⟨_, _, fun w hT => put_in ps qs hps hqs i hi w (by omega) (by omega) hT, fun w => rput_in ps qs hps hqs i hi w (by omega) (by omega)⟩
      · exact ⟨_, _, fun w hT => put_out ps qs hps hqs a ha w (by omega) (by omega) hT ha1 ha2, fun w => rput_out ps qs hps hqs a ha w (by omega) (by omega) ha1 ha2⟩
    · rw [he]
      exact ⟨_, _, fun w hT => put_bad2 ps hps _ hv a w (by omega) (by omega) hT, fun w => rput_bad2 ps hps _ hv a w (by omega) (by omega)⟩
  · have hl : s.data.toList.length ≤ 3000 := by rw [← Lib.size_eq]; omega
    rw [he, ← ofL_data m]
    exact ⟨_, _, fun w hT => put_bad1 _ _ hv a w (by omega) hT, fun w => rput_bad1 _ _ hv a w (by omega)⟩
theorem replace_both (s nm bm : ByteArray) (hs : s.size ≤ 3000) (hn : nm.size ≤ 3000) (hb : bm.size ≤ 3000) :
    ∃ t n x, (∀ w, Tabs w → Calls Tryd.prog 19 #[.string s, .string nm, .string bm] w fun e w' => e = .returned (.tuple #[.string t, .int .i64 n, .int .i64 x]) ∧ Below w.heap.size w w') ∧
      (∀ w, Calls Tryd.prog 20 #[.string s, .string nm, .string bm] w fun e w' => e = .returned (.tuple #[.string t, .int .i64 n, .int .i64 x]) ∧ Below w.heap.size w w') := by
  have hml : nm.data.toList.length ≤ 3000 := by rw [← Lib.size_eq]; omega
  have hbl : bm.data.toList.length ≤ 3000 := by rw [← Lib.size_eq]; omega
  rw [← ofL_data nm, ← ofL_data bm]
  rcases texts s with ⟨ps, hps, rfl⟩ | ⟨hv, he⟩
  · have hl : ps.flatten.length ≤ 3000 := by rw [ofL_size] at hs; omega
    cases hid : identL nm.data.toList
    · exact ⟨_, _, _, fun w hT => replace_no ps hps _ _ hid w (by omega) (by omega) hT, fun w => rreplace_no ps hps _ _ hid w (by omega) (by omega)⟩
    · cases hby : identL bm.data.toList
      · exact ⟨_, _, _, fun w hT => replace_noby ps hps _ _ hid hby w (by omega) (by omega) (by omega) hT, fun w => rreplace_noby ps hps _ _ hid hby w (by omega) (by omega) (by omega)⟩
      · exact ⟨_, _, _, fun w hT => replace_ok ps hps _ _ hid hby w (by omega) (by omega) (by omega) hT, fun w => rreplace_ok ps hps _ _ hid hby w (by omega) (by omega) (by omega)⟩
  · have hl : s.data.toList.length ≤ 3000 := by rw [← Lib.size_eq]; omega
    rw [he]
    exact ⟨_, _, _, fun w hT => replace_bad _ _ _ hv w (by omega) hT, fun w => rreplace_bad _ _ _ hv w (by omega)⟩
set_option maxHeartbeats 2000000 in
theorem law_cuts (s m : ByteArray) (a b : Int) (w : World) (hs : s.size ≤ 9223372036854775807) (hm : m.size ≤ 9223372036854775807) (ha1 : -9223372036854775808 ≤ a) (ha2 : a ≤ 9223372036854775807) (hb1 : -9223372036854775808 ≤ b) (hb2 : b ≤ 9223372036854775807) (hT : Tabs w) :
    Calls Tryd.prog 7 #[.string s, .int .i64 a, .int .i64 b, .string m] w fun e w' => e = .returned (.bool true) ∧ Below w.heap.size w w' := by
  by_cases hbig : 3000 < s.size
  · go_enter Tryd.func7, Tryd.ntmps7
    go_wp2_with fail
    refine (awake_any _ hT).mono ?_
    rintro e w1 ⟨rfl, hb1⟩
    go_wp2
    go_ret
    exact ⟨rfl, hb1⟩
  · by_cases hbig2 : 3000 < m.size
    · go_enter Tryd.func7, Tryd.ntmps7
      go_wp2_with fail
      refine (awake_any _ hT).mono ?_
      rintro e w1 ⟨rfl, hb1⟩
      go_wp2
      go_ret
      exact ⟨rfl, hb1⟩
    · obtain ⟨t, x, c1, c2⟩ := cut_both s (by omega) a b ha1 ha2 hb1 hb2
      obtain ⟨u, y, c3, c4⟩ := put_both s m (by omega) (by omega) a ha1 ha2
      have C1 := Lib.hid c1
      have C2 := Lib.hid c2
      have C3 := Lib.hid c3
      have C4 := Lib.hid c4
      clear c1 c2 c3 c4
      go_enter Tryd.func7, Tryd.ntmps7
      go_wp2_with fail
      refine (C1.out _ hT).mono ?_
      rintro e w1 ⟨rfl, hb1⟩
      go_wp2_with fail
      refine (C2.out _).mono ?_
      rintro e w2 ⟨rfl, hb2⟩
      have hT2 := (hT.below hb1).below hb2
      go_wp2_with fail
      refine (C3.out _ hT2).mono ?_
      rintro e w3 ⟨rfl, hb3⟩
      have hT3 := hT2.below hb3
      go_wp2_with fail
      refine (C4.out _).mono ?_
      rintro e w4 ⟨rfl, hb4⟩
      have hT4 := hT3.below hb4
      have hbw4 := ((hb1.trans (hb2.mono hb1.size)).trans (hb3.mono (Nat.le_trans hb1.size hb2.size))).trans (hb4.mono (Nat.le_trans (Nat.le_trans hb1.size hb2.size) hb3.size))
      clear hb1 hb2 hb3 hb4 hT hT2 hT3
      go_wp2_with fail
      refine (awake_any _ hT4).mono ?_
      rintro e w5 ⟨rfl, hb5⟩
      have hbw5 := hbw4.trans (hb5.mono hbw4.size)
      clear hb5 hbw4
      go_wp2
      go_ret
      exact ⟨ret_bool' (by simp), hbw5⟩
set_option maxHeartbeats 2000000 in
theorem law_replaces (s nm bm : ByteArray) (w : World) (hs : s.size ≤ 9223372036854775807) (hn : nm.size ≤ 9223372036854775807) (hb : bm.size ≤ 9223372036854775807) (hT : Tabs w) :
    Calls Tryd.prog 5 #[.string s, .string nm, .string bm] w fun e w' => e = .returned (.bool true) ∧ Below w.heap.size w w' := by
  by_cases hbig : 1000 < s.size ∨ 1000 < nm.size ∨ 1000 < bm.size
  · by_cases h1 : 1000 < s.size
    all_goals try by_cases h2 : 1000 < nm.size
    all_goals try have h3 : 1000 < bm.size := by omega
    all_goals
      clear hbig
      go_enter Tryd.func5, Tryd.ntmps5
      go_wp2_with fail
      refine (awake_any _ hT).mono ?_
      rintro e w1 ⟨rfl, hb1⟩
      go_wp2
      go_ret
      exact ⟨rfl, hb1⟩
  · have h1 : s.size ≤ 1000 := by omega
    have h2 : nm.size ≤ 1000 := by omega
    have h3 : bm.size ≤ 1000 := by omega
    clear hbig
    obtain ⟨t, n, x, c1, c2⟩ := replace_both s nm bm (by omega) (by omega) (by omega)
    have C1 := Lib.hid c1
    have C2 := Lib.hid c2
    clear c1 c2
    go_enter Tryd.func5, Tryd.ntmps5
    go_wp2_with fail
    refine (C1.out _ hT).mono ?_
    rintro e w1 ⟨rfl, hb1⟩
    go_wp2_with fail
    refine (C2.out _).mono ?_
    rintro e w2 ⟨rfl, hb2⟩
    have hT2 := (hT.below hb1).below hb2
    have hbw2 := hb1.trans (hb2.mono hb1.size)
    clear hb1 hb2 hT
    go_wp2_with fail
    refine (awake_any _ hT2).mono ?_
    rintro e w5 ⟨rfl, hb5⟩
    have hbw5 := hbw2.trans (hb5.mono hbw2.size)
    clear hb5 hbw2
    go_wp2
    go_ret
    exact ⟨ret_bool' (by simp), hbw5⟩
end Go.Proofs.YtdkkfjcbdokdjaaDoor
