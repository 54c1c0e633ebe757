/- The walks of cutting out of a text and of putting into it. -/
import Derived.Test.YtdkkfjcbdokdjaaDoorW6
namespace Go.Proofs.YtdkkfjcbdokdjaaDoor
open Go.RowKit
theorem place_in (ps : List (List UInt8)) (hps : AllP ps) (k : Nat) (hk : k ≤ ps.length) (w : World) (hl : ps.flatten.length ≤ 1000000000) :
    Calls Tryd.prog 37 #[.string (ofL ps.flatten), .int .i64 (k : Int)] w fun e w' => e = .returned (.tuple #[.int .i64 ((ps.take k).flatten.length : Nat), .bool true]) ∧ Below w.heap.size w w' := by
  have := length_le_flatten ps hps
  refine (place_any ps hps k w hl (by omega) (by omega)).mono ?_
  rintro e w' ⟨⟨j, hj, _, he⟩ | ⟨h, _⟩, hb⟩
  · obtain rfl : k = j := by omega
    exact ⟨he, hb⟩
  · omega
theorem place_out (ps : List (List UInt8)) (hps : AllP ps) (a : Int) (ha : ¬ (0 ≤ a ∧ a ≤ ps.length)) (w : World) (hl : ps.flatten.length ≤ 1000000000) (ha1 : -9223372036854775808 ≤ a) (ha2 : a ≤ 9223372036854775807) :
    Calls Tryd.prog 37 #[.string (ofL ps.flatten), .int .i64 a] w fun e w' => (∃ x, e = .returned (.tuple #[.int .i64 x, .bool false])) ∧ Below w.heap.size w w' := by
  refine (place_any ps hps a w hl ha1 ha2).mono ?_
  rintro e w' ⟨⟨j, hj, _, he⟩ | ⟨h, he⟩, hb⟩
  · omega
  · exact ⟨he, hb⟩
theorem flatten_take_take (ps : List (List UInt8)) (i k : Nat) (h : i ≤ k) : (ps.take k).flatten = (ps.take i).flatten ++ ((ps.drop i).take (k - i)).flatten := by
  rw [← List.flatten_append, ← List.drop_take]
  congr 1
  have := (List.take_append_drop i (ps.take k)).symm
  rwa [List.take_take, Nat.min_eq_left h] at this
theorem cut_flat (ps : List (List UInt8)) (i k : Nat) (h : i ≤ k) (hk : k ≤ ps.length) :
    (ofL ps.flatten).extract (ps.take i).flatten.length (ps.take k).flatten.length = ofL ((ps.drop i).take (k - i)).flatten ∧ (ps.take i).flatten.length ≤ (ps.take k).flatten.length ∧ (ps.take k).flatten.length ≤ ps.flatten.length := by
  have e := flatten_take_take ps i k h
  have e2 : ps.flatten = (ps.take k).flatten ++ (ps.drop k).flatten := by rw [← List.flatten_append, List.take_append_drop]
  refine ⟨?_, by rw [e, List.length_append]; omega, flatten_take_le ps k⟩
  rw [ofL_extract, e2, e, List.append_assoc, List.drop_left, List.length_append, Nat.add_sub_cancel_left, List.take_left]
set_option maxHeartbeats 400000 in
theorem cut_in (ps : List (List UInt8)) (hps : AllP ps) (i k : Nat) (hik : i ≤ k) (hk : k ≤ ps.length) (w : World) (hl : ps.flatten.length ≤ 1000000000) (hT : Tabs w) :
    Calls Tryd.prog 21 #[.string (ofL ps.flatten), .int .i64 (i : Int), .int .i64 (k : Int)] w fun e w' => e = .returned (.tuple #[str ((ps.drop i).take (k - i)).flatten, .int .i64 0]) ∧ Below w.heap.size w w' := by
  have cV := valid_any ps.flatten w hl hT
  rw [valid_flatten ps hps] at cV
  have CV := Lib.hid cV
  have C1 := Lib.hid (fun w => place_in ps hps i (by omega) w hl)
  have C2 := Lib.hid (fun w => place_in ps hps k hk w hl)
  obtain ⟨hx, h1, h2⟩ := cut_flat ps i k hik hk
  have hsz := ofL_size ps.flatten
  obtain ⟨s, hs⟩ : ∃ s, ofL ps.flatten = s := ⟨_, rfl⟩
  obtain ⟨t, ht⟩ : ∃ t, ((ps.drop i).take (k - i)).flatten = t := ⟨_, rfl⟩
  obtain ⟨x, hxx⟩ : ∃ x, (ps.take i).flatten.length = x := ⟨_, rfl⟩
  obtain ⟨y, hy⟩ : ∃ y, (ps.take k).flatten.length = y := ⟨_, rfl⟩
  rw [hxx] at C1 hx h1
  rw [hy] at C2 hx h1 h2
  rw [ht] at hx ⊢
  rw [hs] at hx hsz C1 C2 CV ⊢
  have hy2 : y ≤ s.size := by omega
  have hsm : s.size ≤ 1000000000 := by omega
  have hki : ¬ (k : Int) < (i : Int) := by omega
  clear cV hsz hs ht hxx hy h2 hl hk
  go_enter Tryd.func21, Tryd.ntmps21
  go_wp2_with fail
  refine (CV.out).mono ?_
  rintro e w1 ⟨rfl, hb1⟩
  go_wp2_with fail
  refine (C1.out _).mono ?_
  rintro e w2 ⟨rfl, hb2⟩
  go_wp2_with fail
  refine (C2.out _).mono ?_
  rintro e w3 ⟨rfl, hb3⟩
  go_wp2
  go_ret2
  exact ⟨rfl, (hb1.trans (hb2.mono hb1.size)).trans (hb3.mono (Nat.le_trans hb1.size hb2.size))⟩
theorem at_range (ps : List (List UInt8)) (a : Int) : (∃ k : Nat, a = k ∧ k ≤ ps.length) ∨ ¬ (0 ≤ a ∧ a ≤ ps.length) := by
  by_cases h : 0 ≤ a ∧ a ≤ ps.length
  · exact .inl ⟨a.toNat, by omega, by omega⟩
  · exact .inr h
set_option maxHeartbeats 1000000 in
theorem cut_out (ps : List (List UInt8)) (hps : AllP ps) (a b : Int) (hn : ¬ (0 ≤ a ∧ a ≤ b ∧ b ≤ ps.length)) (w : World) (hl : ps.flatten.length ≤ 1000000000) (hT : Tabs w)
    (ha1 : -9223372036854775808 ≤ a) (ha2 : a ≤ 9223372036854775807) (hb1 : -9223372036854775808 ≤ b) (hb2 : b ≤ 9223372036854775807) :
    Calls Tryd.prog 21 #[.string (ofL ps.flatten), .int .i64 a, .int .i64 b] w fun e w' => e = .returned (.tuple #[.string ⟨#[]⟩, .int .i64 100]) ∧ Below w.heap.size w w' := by
  have cV := valid_any ps.flatten w hl hT
  rw [valid_flatten ps hps] at cV
  have CV := Lib.hid cV
  clear cV
  rcases at_range ps a with ⟨i, rfl, hi⟩ | ha
  · have C1 := Lib.hid (fun w => place_in ps hps i (by omega) w hl)
    rcases at_range ps b with ⟨k, rfl, hk⟩ | hb
    · have C2 := Lib.hid (fun w => place_in ps hps k hk w hl)
      have hki : (k : Int) < (i : Int) := by omega
      obtain ⟨s, hs⟩ : ∃ s, ofL ps.flatten = s := ⟨_, rfl⟩
      rw [hs] at C1 C2 CV ⊢
      clear hn hs
      go_enter Tryd.func21, Tryd.ntmps21
      go_wp2_with fail
      refine (CV.out).mono ?_
      rintro e w1 ⟨rfl, hb1⟩
      go_wp2_with fail
      refine (C1.out _).mono ?_
      rintro e w2 ⟨rfl, hb2⟩
      go_wp2_with fail
      refine (C2.out _).mono ?_
      rintro e w3 ⟨rfl, hb3⟩
      go_wp2
      go_ret2
      exact ⟨rfl, (hb1.trans (hb2.mono hb1.size)).trans (hb3.mono (Nat.le_trans hb1.size hb2.size))⟩
    · have C2 := Lib.hid (fun w => place_out ps hps b hb w hl hb1 hb2)
      obtain ⟨s, hs⟩ : ∃ s, ofL ps.flatten = s := ⟨_, rfl⟩
      rw [hs] at C1 C2 CV ⊢
      clear hn hs hb
      go_enter Tryd.func21, Tryd.ntmps21
      go_wp2_with fail
      refine (CV.out).mono ?_
      rintro e w1 ⟨rfl, hb1⟩
      go_wp2_with fail
      refine (C1.out _).mono ?_
      rintro e w2 ⟨rfl, hb2⟩
      go_wp2_with fail
      refine (C2.out _).mono ?_
      rintro e w3 ⟨⟨x, rfl⟩, hb3⟩
      go_wp2
      go_ret2
      exact ⟨rfl, (hb1.trans (hb2.mono hb1.size)).trans (hb3.mono (Nat.le_trans hb1.size hb2.size))⟩
  · have C1 := Lib.hid (fun w => place_out ps hps a ha w hl ha1 ha2)
    have C2 := Lib.hid (fun w => place_any ps hps b w hl hb1 hb2)
    obtain ⟨s, hs⟩ : ∃ s, ofL ps.flatten = s := ⟨_, rfl⟩
    rw [hs] at C1 C2 CV ⊢
    clear hn hs ha
    go_enter Tryd.func21, Tryd.ntmps21
    go_wp2_with fail
    refine (CV.out).mono ?_
    rintro e w1 ⟨rfl, hb1⟩
    go_wp2_with fail
    refine (C1.out _).mono ?_
    rintro e w2 ⟨⟨x, rfl⟩, hb2⟩
    go_wp2_with fail
    refine (C2.out _).mono ?_
    rintro e w3 ⟨⟨j, _, _, rfl⟩ | ⟨_, y, rfl⟩, hb3⟩
    all_goals
      go_wp2
      go_ret2
      exact ⟨rfl, (hb1.trans (hb2.mono hb1.size)).trans (hb3.mono (Nat.le_trans hb1.size hb2.size))⟩
set_option maxHeartbeats 400000 in
theorem cut_bad (l : List UInt8) (hv : Lib.validD l = false) (a b : Int) (w : World) (hl : l.length ≤ 1000000000) (hT : Tabs w) :
    Calls Tryd.prog 21 #[.string (ofL l), .int .i64 a, .int .i64 b] w fun e w' => e = .returned (.tuple #[.string ⟨#[]⟩, .int .i64 60]) ∧ Below w.heap.size w w' := by
  have cV := valid_any l w hl hT
  rw [hv] at cV
  have CV := Lib.hid cV
  clear cV hv
  go_enter Tryd.func21, Tryd.ntmps21
  go_wp2_with fail
  refine (CV.out).mono ?_
  rintro e w1 ⟨rfl, hb1⟩
  go_wp2
  go_ret2
  exact ⟨rfl, hb1⟩
end Go.Proofs.YtdkkfjcbdokdjaaDoor
