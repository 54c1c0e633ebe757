/- The statements' own walks: pieces, and replacing: each law returns true. -/
import Derived.Test.YtdkkfjcbdokdjaaDoorW19
namespace Go.Proofs.YtdkkfjcbdokdjaaDoor
open Go.RowKit
/-- every text is pieces, or none -/
theorem texts (s : ByteArray) : (∃ ps, AllP ps ∧ s = ofL ps.flatten) ∨ (Lib.validD s.data.toList = false ∧ s = ofL s.data.toList) := by
  cases hv : Lib.validD s.data.toList
  · exact .inr ⟨rfl, (ofL_data s).symm⟩
  · obtain ⟨ps, h1, h2⟩ := pieces_of_valid hv
    exact .inl ⟨ps, h1, by rw [← h2, ofL_data]⟩
theorem texts_nil (A1 A2 : Option Addr) (c1 c2 : Nat) (n : Nat) (ls : List Bs) (B : Nat) (w : World) (h1 : Rd w B 1 (.slice A1 n c1) n (ls.map str)) (h2 : Rd w B 1 (.slice A2 n c2) n (ls.map str)) :
    Calls Tryd.prog 14 #[.slice A1 n c1, .slice A2 n c2] w fun e w' => e = .returned (.bool true) ∧ Below w.heap.size w w' := by
  have h := sameTexts_any A1 A2 n n c1 c2 ls ls B w h1 h2
  rw [decide_eq_true rfl] at h
  exact h
set_option maxHeartbeats 2000000 in
theorem law_splits (s : ByteArray) (w : World) (hs : s.size ≤ 9223372036854775807) (hT : Tabs w) :
    Calls Tryd.prog 3 #[.string s] w fun e w' => e = .returned (.bool true) ∧ Below w.heap.size w w' := by
  by_cases hbig : 3000 < s.size
  · go_enter Tryd.func3, Tryd.ntmps3
    go_wp2_with fail
    refine (awake_any _ hT).mono ?_
    rintro e w1 ⟨rfl, hb1⟩
    go_wp2
    go_ret
    exact ⟨rfl, hb1⟩
  · rcases texts s with ⟨ps, hps, rfl⟩ | ⟨hv, he⟩
    · have hl : ps.flatten.length ≤ 3000 := by rw [ofL_size] at hbig; omega
      have C1 := Lib.hid (fun w hT => split_valid ps hps w (by omega) hT)
      have C2 := Lib.hid (fun w => rsplit_valid ps hps w (by omega))
      have C3 := Lib.hid (fun w hT => len_valid ps hps w (by omega) hT)
      have C4 := Lib.hid (fun w => rlen_valid ps hps w (by omega))
      obtain ⟨s, hss⟩ : ∃ s, ofL ps.flatten = s := ⟨_, rfl⟩
      rw [hss] at C1 C2 C3 C4 hbig hs ⊢
      clear hss
      go_enter Tryd.func3, Tryd.ntmps3
      go_wp2_with fail
      refine (C1.out _ hT).mono ?_
      rintro e w1 ⟨v1, rfl, ho1, hb1⟩
      go_wp2_with fail
      refine (C2.out _).mono ?_
      rintro e w2 ⟨v2, rfl, ho2, hb2⟩
      have hT2 := (hT.below hb1).below hb2
      go_wp2_with fail
      refine (C3.out _ hT2).mono ?_
      rintro e w3 ⟨rfl, hb3⟩
      have hT3 := hT2.below hb3
      go_wp2_with fail
      refine (C4.out _).mono ?_
      rintro e w4 ⟨rfl, hb4⟩
      have hT4 := hT3.below hb4
      have o1 := own_below (own_below (own_below ho1 hb2) hb3) hb4
      have o2 := own_below (own_below ho2 hb3) hb4
      have hbw4 := ((hb1.trans (hb2.mono hb1.size)).trans (hb3.mono (Nat.le_trans hb1.size hb2.size))).trans (hb4.mono (Nat.le_trans (Nat.le_trans hb1.size hb2.size) hb3.size))
      have O1 := Lib.hid o1
      have O2 := Lib.hid o2
      clear o1 o2 ho1 ho2 hb1 hb2 hb3 hb4 hT hT2 hT3
      go_wp2_with fail
      refine (awake_any _ hT4).mono ?_
      rintro e w5 ⟨rfl, hb5⟩
      have r1 := Rd.of_own (own_below O1.out hb5)
      have r2 := Rd.of_own (own_below O2.out hb5)
      obtain ⟨A1, c1, rfl, _⟩ := r1.form
      obtain ⟨A2, c2, rfl, _⟩ := r2.form
      have CT := Lib.hid (texts_nil _ _ _ _ _ _ _ _ r1 r2)
      have hbw5 := hbw4.trans (hb5.mono hbw4.size)
      clear r1 r2 hb5 hbw4 O1 O2
      go_wp2_with fail
      refine (CT.out).mono ?_
      rintro e w6 ⟨rfl, hb6⟩
      go_wp2
      go_ret
      exact ⟨ret_bool' (by simp), hbw5.trans (hb6.mono hbw5.size)⟩
    · have hl : s.data.toList.length ≤ 3000 := by rw [← Lib.size_eq]; omega
      obtain ⟨l, hll⟩ : ∃ l, s.data.toList = l := ⟨_, rfl⟩
      rw [hll] at hv he hl
      have C1 := Lib.hid (fun w hT => split_bad l hv w (by omega) hT)
      have C2 := Lib.hid (fun w => rsplit_bad l hv w (by omega))
      have C3 := Lib.hid (fun w hT => len_bad l hv w (by omega) hT)
      have C4 := Lib.hid (fun w => rlen_bad l hv w (by omega))
      rw [← he] at C1 C2 C3 C4
      clear hll hv he
      go_enter Tryd.func3, Tryd.ntmps3
      go_wp2_with fail
      refine (C1.out _ hT).mono ?_
      rintro e w1 ⟨rfl, hb1⟩
      go_wp2_with fail
      refine (C2.out _).mono ?_
      rintro e w2 ⟨rfl, hb2⟩
      have hT2 := (hT.below hb1).below hb2
      go_wp2_with fail
      refine (C3.out _ hT2).mono ?_
      rintro e w3 ⟨rfl, hb3⟩
      have hT3 := hT2.below hb3
      go_wp2_with fail
      refine (C4.out _).mono ?_
      rintro e w4 ⟨rfl, hb4⟩
      have hT4 := hT3.below hb4
      have hbw4 := ((hb1.trans (hb2.mono hb1.size)).trans (hb3.mono (Nat.le_trans hb1.size hb2.size))).trans (hb4.mono (Nat.le_trans (Nat.le_trans hb1.size hb2.size) hb3.size))
      clear hb1 hb2 hb3 hb4 hT hT2 hT3
      go_wp2_with fail
      refine (awake_any _ hT4).mono ?_
      rintro e w5 ⟨rfl, hb5⟩
      have hbw5 := hbw4.trans (hb5.mono hbw4.size)
      have CT := Lib.hid (texts_nil none none 0 0 0 [] w5.heap.size w5 (Rd.nil _ _ _) (Rd.nil _ _ _))
      clear hb5 hbw4
      go_wp2_with fail
      refine (CT.out).mono ?_
      rintro e w6 ⟨rfl, hb6⟩
      go_wp2
      go_ret
      exact ⟨ret_bool' (by simp), hbw5.trans (hb6.mono hbw5.size)⟩
end Go.Proofs.YtdkkfjcbdokdjaaDoor
