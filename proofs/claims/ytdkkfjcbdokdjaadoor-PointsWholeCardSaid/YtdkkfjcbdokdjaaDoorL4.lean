/- The statement's own walk: names. -/
import Derived.Test.YtdkkfjcbdokdjaaDoorL3
import Derived.Test.YtdkkfjcbdokdjaaDoorW20
import Derived.Test.YtdkkfjcbdokdjaaDoorM7
namespace Go.Proofs.YtdkkfjcbdokdjaaDoor
open Go.RowKit
/-- what Find answers, but for the places themselves -/
theorem find_n (ps : List Bs) (hps : AllP ps) (name : Bs) (hid : identL name = true) (w : World) (hl : ps.flatten.length ≤ 1000000) (hn : name.length ≤ 1000000) (hT : Tabs w) :
    Calls Tryd.prog 15 #[.string (ofL ps.flatten), .string (ofL name)] w fun e w' => ∃ A1 A2 c1 c2, e = .returned (.tuple #[.slice A1 (findOf ps name).length c1, .slice A2 (findOf ps name).length c2, .int .i64 0]) ∧ Below w.heap.size w w' := by
  refine (find_ok ps hps name hid w hl hn hT).mono ?_
  rintro e w' ⟨v1, v2, rfl, ho1, ho2, hb⟩
  obtain ⟨A1, d1, rfl, _⟩ := (Rd.of_own ho1).form
  obtain ⟨A2, d2, rfl, _⟩ := (Rd.of_own ho2).form
  exact ⟨A1, A2, d1, d2, rfl, hb⟩
theorem find_len {ps : List Bs} (hps : AllP ps) (name : Bs) : (findOf ps name).length ≤ ps.flatten.length := by
  have hrl := rising_len (((runs_rising ps).filter (fun r => word ps r == name))) (Nat.zero_le _)
  have hpl := length_le_flatten ps hps
  unfold findOf; omega
theorem toList_ne {a b : ByteArray} (h : ¬ a = b) : (a.toList == b.toList) = false := by
  cases e : (a.toList == b.toList)
  · rfl
  · have e1 : a.toList = b.toList := by simpa using e
    rw [Lib.toList_data, Lib.toList_data] at e1
    exact absurd (by rw [← ofL_data a, ← ofL_data b, e1]) h
set_option maxHeartbeats 2000000 in
set_option maxRecDepth 100000 in
/-- the answer where there is none -/
theorem names_err (s nm bm : ByteArray) (x y : Int) (w : World) (hx : x = 60 ∨ x = 61) (hT : Tabs w) (h1 : s.size ≤ 2000) (h2 : nm.size ≤ 100) (h3 : bm.size ≤ 100)
    (c1 : ∀ w, Tabs w → Calls Tryd.prog 19 #[.string s, .string nm, .string bm] w fun e w' => e = .returned (.tuple #[.string ⟨#[]⟩, .int .i64 0, .int .i64 x]) ∧ Below w.heap.size w w')
    (c2 : ∀ w, Tabs w → Calls Tryd.prog 15 #[.string s, .string nm] w fun e w' => ∃ A1 A2 n d1 d2, e = .returned (.tuple #[.slice A1 n d1, .slice A2 n d2, .int .i64 y]) ∧ Below w.heap.size w w') :
    Calls Tryd.prog 6 #[.string s, .string nm, .string bm] w fun e w' => e = .returned (.bool true) ∧ Below w.heap.size w w' := by
  have C1 := Lib.hid c1
  have C2 := Lib.hid c2
  clear c1 c2
  rcases hx with rfl | rfl
  all_goals
    go_enter Tryd.func6, Tryd.ntmps6
    go_wp2_with fail
    refine (awake_any _ hT).mono ?_
    rintro e w1 ⟨rfl, hb1⟩
    have hT1 := hT.below hb1
    go_wp2_with fail
    refine (C1.out _ hT1).mono ?_
    rintro e w2 ⟨rfl, hb2⟩
    have hT2 := hT1.below hb2
    have hbw2 := hb1.trans (hb2.mono hb1.size)
    clear hb1 hb2 hT hT1
    go_wp2_with fail
    refine (C2.out _ hT2).mono ?_
    rintro e w3 ⟨A1, A2, n, d1, d2, rfl, hb3⟩
    have hbw3 := hbw2.trans (hb3.mono hbw2.size)
    clear hb3 hbw2 hT2
    go_wp2
    go_ret
    exact ⟨ret_bool' (by simp), hbw3⟩
set_option maxHeartbeats 8000000 in
set_option maxRecDepth 100000 in
/-- the answer where there is one -/
theorem names_ok (s nm bm t v : ByteArray) (n c k : Nat) (w : World) (hT : Tabs w) (h1 : s.size ≤ 2000) (h2 : nm.size ≤ 100) (h3 : bm.size ≤ 100) (hn : n ≤ 1000000) (hc : c ≤ 1000000) (hk : k ≤ 1000000)
    (c1 : ∀ w, Tabs w → Calls Tryd.prog 19 #[.string s, .string nm, .string bm] w fun e w' => e = .returned (.tuple #[.string t, .int .i64 (n : Nat), .int .i64 0]) ∧ Below w.heap.size w w')
    (c2 : ∀ w, Tabs w → Calls Tryd.prog 15 #[.string s, .string nm] w fun e w' => ∃ A1 A2 d1 d2, e = .returned (.tuple #[.slice A1 n d1, .slice A2 n d2, .int .i64 0]) ∧ Below w.heap.size w w')
    (c3 : ∀ w, Tabs w → Calls Tryd.prog 19 #[.string s, .string nm, .string nm] w fun e w' => e = .returned (.tuple #[.string s, .int .i64 (n : Nat), .int .i64 0]) ∧ Below w.heap.size w w')
    (c4 : nm ≠ bm → ∀ w, Tabs w → Calls Tryd.prog 15 #[.string t, .string nm] w fun e w' => ∃ A1 A2 d1 d2, e = .returned (.tuple #[.slice A1 0 d1, .slice A2 0 d2, .int .i64 0]) ∧ Below w.heap.size w w')
    (c5 : nm ≠ bm → ∀ w, Tabs w → Calls Tryd.prog 15 #[.string s, .string bm] w fun e w' => ∃ A1 A2 d1 d2, e = .returned (.tuple #[.slice A1 c d1, .slice A2 c d2, .int .i64 0]) ∧ Below w.heap.size w w')
    (c6 : nm ≠ bm → ∀ w, Tabs w → Calls Tryd.prog 15 #[.string t, .string bm] w fun e w' => ∃ A1 A2 d1 d2, e = .returned (.tuple #[.slice A1 (n + c) d1, .slice A2 (n + c) d2, .int .i64 0]) ∧ Below w.heap.size w w')
    (c7 : nm ≠ bm → ∀ w, Tabs w → Calls Tryd.prog 19 #[.string t, .string bm, .string nm] w fun e w' => e = .returned (.tuple #[.string v, .int .i64 (k : Nat), .int .i64 0]) ∧ Below w.heap.size w w')
    (hv : nm ≠ bm → c = 0 → v = s ∧ k = n) :
    Calls Tryd.prog 6 #[.string s, .string nm, .string bm] w fun e w' => e = .returned (.bool true) ∧ Below w.heap.size w w' := by
  by_cases hne : nm = bm
  · subst hne
    have C1 := Lib.hid c1
    have C2 := Lib.hid c2
    have C3 := Lib.hid c3
    clear c1 c2 c3 c4 c5 c6 c7 hv
    go_enter Tryd.func6, Tryd.ntmps6
    go_wp2_with fail
    refine (awake_any _ hT).mono ?_
    rintro e w1 ⟨rfl, hb1⟩
    have hT1 := hT.below hb1
    go_wp2_with fail
    with_reducible refine (C1.out _ hT1).mono ?_
    rintro e w2 ⟨rfl, hb2⟩
    have hT2 := hT1.below hb2
    have hbw2 := hb1.trans (hb2.mono hb1.size)
    clear hb1 hb2 hT hT1
    go_wp2_with fail
    with_reducible refine (C2.out _ hT2).mono ?_
    rintro e w3 ⟨A1, A2, d1, d2, rfl, hb3⟩
    have hT3 := hT2.below hb3
    have hbw3 := hbw2.trans (hb3.mono hbw2.size)
    clear hb3 hbw2 hT2
    go_wp2_with fail
    with_reducible refine (C3.out _ hT3).mono ?_
    rintro e w4 ⟨rfl, hb4⟩
    have hbw4 := hbw3.trans (hb4.mono hbw3.size)
    clear hb4 hbw3 hT3
    go_wp2
    go_ret
    exact ⟨ret_bool' (by simp), hbw4⟩
  · have C1 := Lib.hid c1
    have C2 := Lib.hid c2
    have C3 := Lib.hid c3
    have C4 := Lib.hid (c4 hne)
    have C5 := Lib.hid (c5 hne)
    have C6 := Lib.hid (c6 hne)
    have C7 := Lib.hid (c7 hne)
    have hv := hv hne
    have hbq := toList_ne hne
    clear c1 c2 c3 c4 c5 c6 c7
    obtain ⟨m, hm⟩ : ∃ m, n + c = m := ⟨_, rfl⟩
    have HM := Lib.hid hm
    have HV := Lib.hid hv
    have hmi : ((m : Nat) : Int) = ((n : Nat) : Int) + ((c : Nat) : Int) := by omega
    have hm1 : m ≤ 2000000 := by omega
    rw [hm] at C6
    clear hv hm
    have main : (0 < c ∨ (c = 0 ∧ v = s ∧ k = n)) := by
      rcases Nat.eq_zero_or_pos c with h0 | h0
      · exact .inr ⟨h0, HV.out h0⟩
      · exact .inl h0
    go_enter Tryd.func6, Tryd.ntmps6
    go_wp2_with fail
    refine (awake_any _ hT).mono ?_
    rintro e w1 ⟨rfl, hb1⟩
    have hT1 := hT.below hb1
    go_wp2_with fail
    with_reducible refine (C1.out _ hT1).mono ?_
    rintro e w2 ⟨rfl, hb2⟩
    have hT2 := hT1.below hb2
    have hbw2 := hb1.trans (hb2.mono hb1.size)
    clear hb1 hb2 hT hT1
    go_wp2_with fail
    with_reducible refine (C2.out _ hT2).mono ?_
    rintro e w3 ⟨A1, A2, d1, d2, rfl, hb3⟩
    have hT3 := hT2.below hb3
    have hbw3 := hbw2.trans (hb3.mono hbw2.size)
    clear hb3 hbw2 hT2
    go_wp2_with fail
    with_reducible refine (C3.out _ hT3).mono ?_
    rintro e w4 ⟨rfl, hb4⟩
    have hT4 := hT3.below hb4
    have hbw4 := hbw3.trans (hb4.mono hbw3.size)
    clear hb4 hbw3 hT3
    go_wp2_with fail
    with_reducible refine (C4.out _ hT4).mono ?_
    rintro e w5 ⟨A4, A5, d4, d5, rfl, hb5⟩
    have hT5 := hT4.below hb5
    have hbw5 := hbw4.trans (hb5.mono hbw4.size)
    clear hb5 hbw4 hT4
    go_wp2_with fail
    with_reducible refine (C5.out _ hT5).mono ?_
    rintro e w6 ⟨A6, A7, d6, d7, rfl, hb6⟩
    have hT6 := hT5.below hb6
    have hbw6 := hbw5.trans (hb6.mono hbw5.size)
    clear hb6 hbw5 hT5
    go_wp2_with fail
    with_reducible refine (C6.out _ hT6).mono ?_
    rintro e w7 ⟨A8, A9, d8, d9, rfl, hb7⟩
    have hT7 := hT6.below hb7
    have hbw7 := hbw6.trans (hb7.mono hbw6.size)
    clear hb7 hbw6 hT6
    go_wp2_with fail
    with_reducible refine (C7.out _ hT7).mono ?_
    rintro e w8 ⟨rfl, hb8⟩
    have hbw8 := hbw7.trans (hb8.mono hbw7.size)
    clear hb8 hbw7 hT7
    rcases main with h0 | ⟨rfl, rfl, rfl⟩
    · go_wp2
      go_ret
      exact ⟨ret_bool' (by simp), hbw8⟩
    · go_wp2
      go_ret
      exact ⟨ret_bool' (by simp), hbw8⟩
theorem str_of {a b : Bs} (h : a = b) : str a = .string (ofL b) := by rw [h]; rfl
set_option maxHeartbeats 2000000 in
set_option maxRecDepth 100000 in
theorem law_names (s nm bm : ByteArray) (w : World) (hs : s.size ≤ 9223372036854775807) (hn : nm.size ≤ 9223372036854775807) (hb : bm.size ≤ 9223372036854775807) (hT : Tabs w) :
    Calls Tryd.prog 6 #[.string s, .string nm, .string bm] w fun e w' => e = .returned (.bool true) ∧ Below w.heap.size w w' := by
  by_cases hbig : 2000 < s.size ∨ 100 < nm.size ∨ 100 < bm.size
  · by_cases h1 : 2000 < s.size
    all_goals try by_cases h2 : 100 < nm.size
    all_goals try have h3 : 100 < bm.size := by omega
    all_goals
      clear hbig
      go_enter Tryd.func6, Tryd.ntmps6
      go_wp2_with fail
      refine (awake_any _ hT).mono ?_
      rintro e w1 ⟨rfl, hb1⟩
      go_wp2
      go_ret
      exact ⟨rfl, hb1⟩
  · have h1 : s.size ≤ 2000 := by omega
    have h2 : nm.size ≤ 100 := by omega
    have h3 : bm.size ≤ 100 := by omega
    clear hbig
    have hnl : nm.data.toList.length ≤ 100 := by rw [← Lib.size_eq]; omega
    have hbl : bm.data.toList.length ≤ 100 := by rw [← Lib.size_eq]; omega
    rcases texts s with ⟨ps, hps, rfl⟩ | ⟨hv, he⟩
    · have hl : ps.flatten.length ≤ 2000 := by rw [ofL_size] at h1; omega
      cases hid : identL nm.data.toList
      · refine names_err _ nm bm 61 61 w (.inr rfl) hT h1 h2 h3 (fun w hT => ?_) (fun w hT => ?_)
        · have := replace_no ps hps _ bm.data.toList hid w (by omega) (by omega) hT
          rwa [ofL_data, ofL_data] at this
        · have := find_no ps hps _ hid w (by omega) (by omega) hT
          rw [ofL_data] at this
          exact this.mono (fun e w' h => ⟨_, _, _, _, _, h⟩)
      · cases hby : identL bm.data.toList
        · refine names_err _ nm bm 61 0 w (.inr rfl) hT h1 h2 h3 (fun w hT => ?_) (fun w hT => ?_)
          · have := replace_noby ps hps _ bm.data.toList hid hby w (by omega) (by omega) (by omega) hT
            rwa [ofL_data, ofL_data] at this
          · have := find_n ps hps _ hid w (by omega) (by omega) hT
            rw [ofL_data] at this
            refine this.mono ?_
            rintro e w' ⟨A1, A2, d1, d2, h⟩
            exact ⟨A1, A2, _, d1, d2, h⟩
        · obtain ⟨N, hN⟩ : ∃ N, nm.data.toList = N := ⟨_, rfl⟩
          obtain ⟨B, hB⟩ : ∃ B, bm.data.toList = B := ⟨_, rfl⟩
          have eN : ofL N = nm := by rw [← hN, ofL_data]
          have eB : ofL B = bm := by rw [← hB, ofL_data]
          rw [hN] at hid hnl
          rw [hB] at hby hbl
          have hok := swapped_ok (nm := N) hps hby
          have hlen : (swapped ps N B).flatten.length ≤ 202000 := by
            have e1 := swapped_len (ps := ps) (by_ := B) hid
            have e2 := Nat.mul_le_mul hl (show B.length + 1 ≤ 101 by omega)
            omega
          have hfl := find_len hps N
          have hfl2 := find_len hps B
          have hfl3 := find_len hok B
          refine names_ok _ nm bm (ofL (swapped ps N B).flatten) (ofL (replTo (swapped ps N B) N (findOf (swapped ps N B) B) 0)) (findOf ps N).length (findOf ps B).length (findOf (swapped ps N B) B).length w hT h1 h2 h3 (by omega) (by omega) (by omega)
            (fun w hT => ?_) (fun w hT => ?_) (fun w hT => ?_) (fun hne w hT => ?_) (fun hne w hT => ?_) (fun hne w hT => ?_) (fun hne w hT => ?_) (fun hne h0 => ?_)
          · have := replace_ok2 ps hps N B hid hby w (by omega) (by omega) (by omega) hT
            rw [eN, eB, str_of (repl_swapped ps N B)] at this
            exact this
          · have := find_n ps hps N hid w (by omega) (by omega) hT
            rwa [eN] at this
          · have := replace_ok2 ps hps N N hid hid w (by omega) (by omega) (by omega) hT
            rw [eN, str_of (self_text ps N)] at this
            exact this
          · have := find_n _ hok N hid w (by omega) (by omega) hT
            rw [eN, gone_len hby (fun e => hne (by rw [← eN, ← eB, e]))] at this
            exact this
          · have := find_n ps hps B hby w (by omega) (by omega) hT
            rwa [eB] at this
          · have := find_n _ hok B hby w (by omega) (by omega) hT
            rw [eB, more_len hby (fun e => hne (by rw [← eN, ← eB, e]))] at this
            exact this
          · have := replace_ok2 _ hok B N hby hid w (by omega) (by omega) (by omega) hT
            rw [eN, eB] at this
            exact this
          · refine ⟨by rw [back_text hby h0], ?_⟩
            have := more_len (ps := ps) (nm := N) hby (fun e => hne (by rw [← eN, ← eB, e]))
            omega
    · have hl : s.data.toList.length ≤ 2000 := by rw [← Lib.size_eq]; omega
      refine names_err _ nm bm 60 60 w (.inl rfl) hT h1 h2 h3 (fun w hT => ?_) (fun w hT => ?_)
      · have := replace_bad _ nm.data.toList bm.data.toList hv w (by omega) hT
        rwa [ofL_data, ofL_data, ofL_data] at this
      · have := find_bad _ nm.data.toList hv w (by omega) hT
        rw [ofL_data, ofL_data] at this
        exact this.mono (fun e w' h => ⟨_, _, _, _, _, h⟩)
end Go.Proofs.YtdkkfjcbdokdjaaDoor
