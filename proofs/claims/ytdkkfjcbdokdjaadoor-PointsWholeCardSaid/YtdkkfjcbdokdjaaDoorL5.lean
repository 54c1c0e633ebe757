/- The statement's own walk: the whole of a text. -/
import Derived.Test.YtdkkfjcbdokdjaaDoorL4
namespace Go.Proofs.YtdkkfjcbdokdjaaDoor
open Go.RowKit
theorem rd_strs {w : World} {B n : Nat} {v : Value} {xs : List Bs} (h : Rd w B 1 v n (xs.map str)) (hx : xs.length = n) : ∃ A c, v = .slice A n c ∧ ∀ k (hk : k < n), ∃ b o, A = some ⟨b, o, none⟩ ∧ w.cell? ⟨b, o + k, none⟩ = some (str (xs[k]'(by omega))) := by
  obtain ⟨A, c, rfl, _⟩ := h.form
  refine ⟨A, c, rfl, fun k hk => ?_⟩
  obtain ⟨b, o, e, _, hc⟩ := h.cells (by omega)
  exact ⟨b, o, e, hc k _ (by simp [show k < xs.length by omega])⟩
set_option maxHeartbeats 8000000 in
set_option maxRecDepth 100000 in
theorem whole_valid (ps : List Bs) (hps : AllP ps) (m : ByteArray) (a : Int) (w : World) (hl : ps.flatten.length ≤ 3000) (hm : m.size ≤ 3000) (ha1 : -9223372036854775808 ≤ a) (ha2 : a ≤ 9223372036854775807) (hT : Tabs w)
    (h : (∃ x : Int, (x = 60 ∨ x = 100) ∧ ∀ w, Tabs w → Calls Tryd.prog 23 #[.string (ofL ps.flatten), .int .i64 a, .string m] w fun e w' => e = .returned (.tuple #[.string ⟨#[]⟩, .int .i64 x]) ∧ Below w.heap.size w w') ∨
      (∃ (i : Nat) (qs : List Bs), a = (i : Nat) ∧ i ≤ ps.length ∧ AllP qs ∧ m = ofL qs.flatten)) :
    Calls Tryd.prog 8 #[.string (ofL ps.flatten), .int .i64 a, .string m] w fun e w' => e = .returned (.bool true) ∧ Below w.heap.size w w' := by
  have H := Lib.hid h
  have C1 := Lib.hid (fun w hT => split_valid ps hps w (by omega) hT)
  have hsz : (ofL ps.flatten).size ≤ 3000 := by rw [ofL_size]; omega
  have hpl := length_le_flatten ps hps
  obtain ⟨s, hss⟩ : ∃ s, ofL ps.flatten = s := ⟨_, rfl⟩
  rw [hss] at C1 hsz ⊢
  have HSS := Lib.hid hss
  obtain ⟨n, hn⟩ : ∃ n, ps.length = n := ⟨_, rfl⟩
  rw [hn] at C1 hpl
  have HN := Lib.hid hn
  have hn0 : n ≤ 3000 := by omega
  clear h hss hn hpl
  go_enter Tryd.func8, Tryd.ntmps8
  go_wp2_with fail
  refine (awake_any _ hT).mono ?_
  rintro e w1 ⟨rfl, hb1⟩
  have hT1 := hT.below hb1
  go_wp2_with fail
  refine (C1.out _ hT1).mono ?_
  rintro e w2 ⟨v, rfl, ho, hb2⟩
  have hT2 := hT1.below hb2
  have hbw2 := hb1.trans (hb2.mono hb1.size)
  obtain ⟨A, c, rfl, hk⟩ := rd_strs (Rd.of_own ho) HN.out
  have K := Lib.hid hk
  clear hb1 hb2 hT hT1 ho hk C1
  go_wp2
  go_loopw [10, 11] (fun vt vi wr => ∃ k : Nat, k ≤ n ∧ vi = .int .i64 (k : Nat) ∧ vt = .string (ofL (ps.take k).flatten) ∧ ∃ q, wr = w2.drewN q) (fun _ vi _ => n - (intOf vi).toNat)
  case atStart => exact ⟨0, Nat.zero_le _, rfl, rfl, 0, rfl⟩
  case round =>
    obtain ⟨k, hk, rfl, rfl, q, rfl⟩ := hrel
    by_cases hlt : k < n
    · obtain ⟨b, o, rfl, e1⟩ := K.out k hlt
      have hlt' : k < ps.length := by rw [HN.out]; exact hlt
      have hp := hps _ (List.getElem_mem hlt')
      have hbq : (ofL ps[k]).toList.isEmpty = false := by
        rw [Lib.toList_data, ofL_toList]
        exact List.isEmpty_eq_false_iff.2 hp.1
      have hsum : ofL (ps.take k).flatten ++ ofL ps[k] = ofL (ps.take (k + 1)).flatten := by
        rw [ofL_append, List.take_succ_eq_append_getElem hlt', List.flatten_append]; simp
      have hs1 : (ofL (ps.take k).flatten).size + (ofL ps[k]).size ≤ 3000 := by
        have h1 := congrArg ByteArray.size hsum
        rw [ByteArray.size_append] at h1
        have h2 := flatten_take_le ps (k + 1)
        rw [ofL_size (ps.take (k + 1)).flatten] at h1
        omega
      rw [show str ps[k] = .string (ofL ps[k]) from rfl] at e1
      obtain ⟨sp, hsp⟩ : ∃ sp, ofL ps[k] = sp := ⟨_, rfl⟩
      rw [hsp] at e1 hbq hsum hs1
      obtain ⟨st, hst⟩ : ∃ st, ofL (ps.take k).flatten = st := ⟨_, rfl⟩
      rw [hst] at hsum hs1 ⊢
      have HSUM := Lib.hid hsum
      have i0 : (0 : Int) ≤ (k : Nat) := by omega
      have i1 : ((k : Nat) : Int) < (n : Nat) := by omega
      clear hsum hsp hst hp hlt'
      go_wp2
      refine ⟨⟨k + 1, by omega, by go_num, by rw [← HSUM.out], _, rfl⟩, ?_⟩
      simp [intOf]; omega
    · have hk0 : k = n := by omega
      subst hk0
      have et : ofL (ps.take k).flatten = s := by rw [← HSS.out, ← HN.out, List.take_length]
      rw [et]
      have hT3 : Tabs (w2.drewN q) := hT2.below (below_drewN (Below.refl _ _) _)
      have hbw3 := below_drewN hbw2 q
      clear hT2 hbw2 et
      rcases H.out with ⟨x, hx, c2⟩ | ⟨i, qs, rfl, hi, hqs, rfl⟩
      · rw [HSS.out] at c2
        have C2 := Lib.hid c2
        clear c2
        rcases hx with rfl | rfl
        all_goals
          go_wp2_with fail
          refine (C2.out _ hT3).mono ?_
          rintro e w5 ⟨rfl, hb5⟩
          have hbw5 := hbw3.trans (hb5.mono hbw3.size)
          clear hb5 hbw3
          go_wp2
          go_ret
          exact ⟨ret_bool' (by simp), hbw5⟩
      · have hql : qs.flatten.length ≤ 3000 := by rw [ofL_size] at hm; omega
        have hqn := length_le_flatten qs hqs
        have hrs : AllP (ps.take i ++ qs ++ ps.drop i) := AllP.append (AllP.append (AllP.take hps i) hqs) (AllP.drop hps i)
        have hrl : (ps.take i ++ qs ++ ps.drop i).length = qs.length + ps.length := by
          rw [List.length_append, List.length_append, List.length_take, List.length_drop]; omega
        have hrf : (ps.take i ++ qs ++ ps.drop i).flatten.length ≤ 6000 := by
          have e1 : ps.flatten = (ps.take i).flatten ++ (ps.drop i).flatten := by rw [← List.flatten_append, List.take_append_drop]
          have e2 := congrArg List.length e1
          rw [List.length_append] at e2
          rw [List.flatten_append, List.flatten_append, List.length_append, List.length_append]
          omega
        have hti : (ps.take i).length = i := by rw [List.length_take]; omega
        have c2 := fun w hT => put_in ps qs hps hqs i hi w (by omega) (by omega) hT
        have d1 := fun w hT => len_valid qs hqs w (by omega) hT
        have d2 := fun w hT => len_valid _ hrs w (by omega) hT
        have d3 := fun w hT => cut_in _ hrs 0 i (Nat.zero_le _) (by omega) w (by omega) hT
        have d4 := fun w hT => cut_in _ hrs i (i + qs.length) (by omega) (by omega) w (by omega) hT
        have d5 := fun w hT => cut_in _ hrs (i + qs.length) (qs.length + ps.length) (by omega) (by omega) w (by omega) hT
        have f3 : ((ps.take i ++ qs ++ ps.drop i).drop 0).take (i - 0) = ps.take i := by
          rw [List.drop_zero, Nat.sub_zero, List.append_assoc, List.take_append_of_le_length (by omega), List.take_of_length_le (by omega)]
        have f4 : ((ps.take i ++ qs ++ ps.drop i).drop i).take (i + qs.length - i) = qs := by
          rw [List.append_assoc, List.drop_left' hti, Nat.add_sub_cancel_left, List.take_left]
        have f5 : ((ps.take i ++ qs ++ ps.drop i).drop (i + qs.length)).take (qs.length + ps.length - (i + qs.length)) = ps.drop i := by
          rw [List.drop_left' (by rw [List.length_append]; omega), List.take_of_length_le (by rw [List.length_drop]; omega)]
        rw [f3] at d3
        rw [f4] at d4
        rw [f5] at d5
        have hxz : ofL (ps.take i).flatten ++ ofL (ps.drop i).flatten = s := by rw [← HSS.out, ofL_append, ← List.flatten_append, List.take_append_drop]
        have hsx : (ofL (ps.take i).flatten).size + (ofL (ps.drop i).flatten).size ≤ 3000 := by
          have h1 := congrArg ByteArray.size hxz
          rw [ByteArray.size_append] at h1
          omega
        rw [HSS.out] at c2
        rw [hrl] at d2
        rw [HN.out] at d2 d5 hi
        obtain ⟨R, hR⟩ : ∃ R, (ps.take i ++ qs ++ ps.drop i).flatten = R := ⟨_, rfl⟩
        rw [hR] at c2 d2 d3 d4 d5
        simp only [show ∀ l, str l = .string (ofL l) from fun _ => rfl] at c2 d3 d4 d5
        obtain ⟨RR, hRR⟩ : ∃ RR, ofL R = RR := ⟨_, rfl⟩
        rw [hRR] at c2 d2 d3 d4 d5
        obtain ⟨M, hM⟩ : ∃ M, ofL qs.flatten = M := ⟨_, rfl⟩
        rw [hM] at c2 d1 d4 hm ⊢
        obtain ⟨X, hX⟩ : ∃ X, ofL (ps.take i).flatten = X := ⟨_, rfl⟩
        rw [hX] at d3 hxz hsx
        obtain ⟨Z, hZ⟩ : ∃ Z, ofL (ps.drop i).flatten = Z := ⟨_, rfl⟩
        rw [hZ] at d5 hxz hsx
        obtain ⟨l, hl⟩ : ∃ l, qs.length = l := ⟨_, rfl⟩
        rw [hl] at d1 d2 d4 d5 hqn
        simp only [Int.natCast_add] at d2 d4 d5
        have hl0 : l ≤ 3000 := by omega
        have C2 := Lib.hid c2
        have D1 := Lib.hid d1
        have D2 := Lib.hid d2
        have D3 := Lib.hid d3
        have D4 := Lib.hid d4
        have D5 := Lib.hid d5
        have HXZ := Lib.hid hxz
        clear c2 d1 d2 d3 d4 d5 hxz f3 f4 f5 hR hRR hM hX hZ hl hrl hrf hti hrs hqn hql
        go_wp2_with fail
        with_reducible refine (C2.out _ hT3).mono ?_
        rintro e w5 ⟨rfl, hb5⟩
        have hT5 := hT3.below hb5
        have hbw5 := hbw3.trans (hb5.mono hbw3.size)
        clear hb5 hbw3 hT3
        go_wp2_with fail
        with_reducible refine (D1.out _ hT5).mono ?_
        rintro e w6 ⟨rfl, hb6⟩
        have hT6 := hT5.below hb6
        have hbw6 := hbw5.trans (hb6.mono hbw5.size)
        clear hb6 hbw5 hT5
        go_wp2_with fail
        with_reducible refine (D2.out _ hT6).mono ?_
        rintro e w7 ⟨rfl, hb7⟩
        have hT7 := hT6.below hb7
        have hbw7 := hbw6.trans (hb7.mono hbw6.size)
        clear hb7 hbw6 hT6
        go_wp2_with fail
        refine (D3.out _ hT7).mono ?_
        rintro e w8 ⟨rfl, hb8⟩
        have hT8 := hT7.below hb8
        have hbw8 := hbw7.trans (hb8.mono hbw7.size)
        clear hb8 hbw7 hT7
        go_wp2_with fail
        refine (D4.out _ hT8).mono ?_
        rintro e w9 ⟨rfl, hb9⟩
        have hT9 := hT8.below hb9
        have hbw9 := hbw8.trans (hb9.mono hbw8.size)
        clear hb9 hbw8 hT8
        go_wp2_with fail
        refine (D5.out _ hT9).mono ?_
        rintro e w10 ⟨rfl, hb10⟩
        have hbw10 := hbw9.trans (hb10.mono hbw9.size)
        clear hb10 hbw9 hT9
        go_wp2
        go_ret
        exact ⟨ret_bool' (by simp), hbw10⟩
        exact absurd (congrArg ByteArray.toList HXZ.out) ‹¬ (X ++ Z).toList = s.toList›
set_option maxHeartbeats 2000000 in
set_option maxRecDepth 100000 in
theorem law_whole (s m : ByteArray) (a : Int) (w : World) (hs : s.size ≤ 9223372036854775807) (hm : m.size ≤ 9223372036854775807) (ha1 : -9223372036854775808 ≤ a) (ha2 : a ≤ 9223372036854775807) (hT : Tabs w) :
    Calls Tryd.prog 8 #[.string s, .int .i64 a, .string m] w fun e w' => e = .returned (.bool true) ∧ Below w.heap.size w w' := by
  by_cases hbig : 3000 < s.size ∨ 3000 < m.size
  · by_cases h1 : 3000 < s.size
    all_goals try have h3 : 3000 < m.size := by omega
    all_goals
      clear hbig
      go_enter Tryd.func8, Tryd.ntmps8
      go_wp2_with fail
      refine (awake_any _ hT).mono ?_
      rintro e w1 ⟨rfl, hb1⟩
      go_wp2
      go_ret
      exact ⟨rfl, hb1⟩
  · have h1 : s.size ≤ 3000 := by omega
    have h2 : m.size ≤ 3000 := by omega
    clear hbig
    have hml : m.data.toList.length ≤ 3000 := by rw [← Lib.size_eq]; omega
    rcases texts s with ⟨ps, hps, rfl⟩ | ⟨hv, he⟩
    · have hl : ps.flatten.length ≤ 3000 := by rw [ofL_size] at h1; omega
      refine whole_valid ps hps m a w hl h2 ha1 ha2 hT ?_
      rcases texts m with ⟨qs, hqs, rfl⟩ | ⟨hv, he⟩
      · rcases at_range ps a with ⟨i, rfl, hi⟩ | ha
        · exact .inr ⟨i, qs, rfl, hi, hqs, rfl⟩
        · have hl2 : qs.flatten.length ≤ 3000 := by rw [ofL_size] at h2; omega
          exact .inl ⟨100, .inr rfl, fun w hT => put_out ps qs hps hqs a ha w (by omega) (by omega) hT ha1 ha2⟩
      · refine .inl ⟨60, .inl rfl, fun w hT => ?_⟩
        have := put_bad2 ps hps _ hv a w (by omega) (by omega) hT
        rwa [ofL_data] at this
    · have hl : s.data.toList.length ≤ 3000 := by rw [← Lib.size_eq]; omega
      have c1 := fun w hT => split_bad _ hv w (by omega) hT
      rw [ofL_data] at c1
      have C1 := Lib.hid c1
      clear c1 he hv
      go_enter Tryd.func8, Tryd.ntmps8
      go_wp2_with fail
      refine (awake_any _ hT).mono ?_
      rintro e w1 ⟨rfl, hb1⟩
      have hT1 := hT.below hb1
      go_wp2_with fail
      refine (C1.out _ hT1).mono ?_
      rintro e w2 ⟨rfl, hb2⟩
      have hbw2 := hb1.trans (hb2.mono hb1.size)
      clear hb1 hb2 hT hT1
      go_wp2
      go_ret
      exact ⟨ret_bool' (by simp), hbw2⟩
end Go.Proofs.YtdkkfjcbdokdjaaDoor
