/- The walks of the document's cutting and putting. -/
import Derived.Test.YtdkkfjcbdokdjaaDoorW7
namespace Go.Proofs.YtdkkfjcbdokdjaaDoor
open Go.RowKit
theorem rd_sub_end {w : World} {B n c i k : Nat} {A : Option Addr} {xs : List Value} (h : Rd w B 1 (.slice A n c) n xs) (hi : i ≤ k) (hk : k ≤ n) (hci : c = i) (c' : Nat) (hc' : c' ≤ maxLen) : Rd w B 1 (.slice A (k - i) c') (k - i) ((xs.drop i).take (k - i)) := by
  have hc := h.len.2.1
  have h0 : k - i = 0 := by omega
  rw [h0]
  refine ⟨by simp, A, c', rfl, by omega, hc', fun h => absurd h (by omega)⟩
theorem rd_sub {w : World} {B n c i k : Nat} {A : Option Addr} {xs : List Value} (h : Rd w B 1 (.slice A n c) n xs) (hi : i ≤ k) (hk : k ≤ n) :
    Rd w B 1 (.slice (A.map (fun x => x.add i)) (k - i) (c - i)) (k - i) ((xs.drop i).take (k - i)) := by
  have hc := h.len.2
  have := Rd.sub h hi hk (A.map (fun x => x.add i)) (fun _ b o hA => by rw [hA, Nat.mul_one]; simp [Addr.add_lit]) (c' := c - i) (by omega) (by have := hc.2; omega)
  simpa using this
set_option maxHeartbeats 400000 in
theorem rcut_in (ps : List (List UInt8)) (hps : AllP ps) (i k : Nat) (hik : i ≤ k) (hk : k ≤ ps.length) (w : World) (hl : ps.flatten.length ≤ 1000000000) :
    Calls Tryd.prog 22 #[.string (ofL ps.flatten), .int .i64 (i : Int), .int .i64 (k : Int)] w fun e w' => e = .returned (.tuple #[str ((ps.drop i).take (k - i)).flatten, .int .i64 0]) ∧ Below w.heap.size w w' := by
  have CS := Lib.hid (rsplit_valid ps hps w hl)
  have hpl := length_le_flatten ps hps
  have hki : ¬ (k : Int) < (i : Int) := by omega
  go_enter Tryd.func22, Tryd.ntmps22
  go_wp2_with fail
  refine (CS.out).mono ?_
  rintro e w1 ⟨v, rfl, ho, hb1⟩
  have hrd := Rd.of_own ho
  obtain ⟨A, c, rfl, hc1, hc2⟩ := hrd.form
  unfold maxLen at hc2
  have HO := Lib.hid ho
  have HR := Lib.hid hrd
  have hkn : ¬ (ps.length : Int) < (k : Int) := by omega
  clear ho hrd
  go_wp2_with fail
  all_goals
    refine (join_any _ _ _ ((ps.drop i).take (k - i)) w1.heap.size _ ?_ ?_).mono ?_
  rotate_left 3
  all_goals first
    | (rw [List.map_take, List.map_drop]; exact rd_sub HR.out hik hk)
    | (rw [List.map_take, List.map_drop]; exact rd_sub_end HR.out hik hk (by omega) _ (by unfold maxLen; omega))
    | (have := flatten_take_take ps i k hik; have h2 := flatten_take_le ps k; rw [this, List.length_append] at h2; omega)
    | (rintro e w2 ⟨rfl, rfl⟩; go_wp2; go_ret2; exact ⟨rfl, hb1⟩)
set_option maxHeartbeats 400000 in
theorem rcut_out (ps : List (List UInt8)) (hps : AllP ps) (a b : Int) (hn : ¬ (0 ≤ a ∧ a ≤ b ∧ b ≤ ps.length)) (w : World) (hl : ps.flatten.length ≤ 1000000000)
    (ha1 : -9223372036854775808 ≤ a) (ha2 : a ≤ 9223372036854775807) (hb1 : -9223372036854775808 ≤ b) (hb2 : b ≤ 9223372036854775807) :
    Calls Tryd.prog 22 #[.string (ofL ps.flatten), .int .i64 a, .int .i64 b] w fun e w' => e = .returned (.tuple #[.string ⟨#[]⟩, .int .i64 100]) ∧ Below w.heap.size w w' := by
  have CS := Lib.hid (rsplit_valid ps hps w hl)
  have hpl := length_le_flatten ps hps
  by_cases h1 : a < 0
  all_goals try by_cases h2 : b < a
  all_goals try have h3 : (ps.length : Int) < b := by omega
  all_goals
    clear hn
    go_enter Tryd.func22, Tryd.ntmps22
    go_wp2_with fail
    refine (CS.out).mono ?_
    rintro e w1 ⟨v, rfl, ho, hb1⟩
    obtain ⟨A, c, rfl, hc1, hc2⟩ := (Rd.of_own ho).form
    unfold maxLen at hc2
    clear ho
    go_wp2
    go_ret2
    exact ⟨rfl, hb1⟩
set_option maxHeartbeats 400000 in
theorem rcut_bad (l : List UInt8) (hv : Lib.validD l = false) (a b : Int) (w : World) (hl : l.length ≤ 1000000000) :
    Calls Tryd.prog 22 #[.string (ofL l), .int .i64 a, .int .i64 b] w fun e w' => e = .returned (.tuple #[.string ⟨#[]⟩, .int .i64 60]) ∧ Below w.heap.size w w' := by
  have CS := Lib.hid (rsplit_bad l hv w hl)
  clear hv
  go_enter Tryd.func22, Tryd.ntmps22
  go_wp2_with fail
  refine (CS.out).mono ?_
  rintro e w1 ⟨rfl, hb1⟩
  go_wp2
  go_ret2
  exact ⟨rfl, hb1⟩
/-! putting -/
theorem put_flat (ps : List (List UInt8)) (i : Nat) :
    (ofL ps.flatten).extract 0 (ps.take i).flatten.length = ofL (ps.take i).flatten ∧ (ofL ps.flatten).extract (ps.take i).flatten.length (ofL ps.flatten).size = ofL (ps.drop i).flatten := by
  have e2 : ps.flatten = (ps.take i).flatten ++ (ps.drop i).flatten := by rw [← List.flatten_append, List.take_append_drop]
  constructor
  · rw [ofL_extract, Nat.sub_zero, List.drop_zero, e2, List.take_left]
  · rw [ofL_extract, ofL_size, e2, List.drop_left, List.length_append, Nat.add_sub_cancel_left, List.take_length]
theorem ret_str2 {a : ByteArray} {b : List UInt8} {z : Value} (h : a = ofL b) : Ending.returned (.tuple #[.string a, z]) = Ending.returned (.tuple #[str b, z]) := by rw [h]; rfl
set_option maxHeartbeats 400000 in
theorem put_in (ps qs : List (List UInt8)) (hps : AllP ps) (hqs : AllP qs) (i : Nat) (hi : i ≤ ps.length) (w : World) (hl : ps.flatten.length ≤ 1000000) (hl2 : qs.flatten.length ≤ 1000000) (hT : Tabs w) :
    Calls Tryd.prog 23 #[.string (ofL ps.flatten), .int .i64 (i : Int), .string (ofL qs.flatten)] w fun e w' => e = .returned (.tuple #[str (ps.take i ++ qs ++ ps.drop i).flatten, .int .i64 0]) ∧ Below w.heap.size w w' := by
  have cV := fun w hT => valid_any ps.flatten w (by omega) hT
  rw [valid_flatten ps hps] at cV
  have CV := Lib.hid cV
  have cV2 := fun w hT => valid_any qs.flatten w (by omega) hT
  rw [valid_flatten qs hqs] at cV2
  have CV2 := Lib.hid cV2
  have C1 := Lib.hid (fun w => place_in ps hps i (by omega) w (by omega))
  obtain ⟨hx1, hx2⟩ := put_flat ps i
  have hpi := flatten_take_le ps i
  have hR : (ps.take i ++ qs ++ ps.drop i).flatten = ((ps.take i).flatten ++ qs.flatten) ++ (ps.drop i).flatten := by simp
  have hsz := ofL_size ps.flatten
  have hsz2 := ofL_size qs.flatten
  have hsa := ofL_size (ps.take i).flatten
  have hsb := ofL_size (ps.drop i).flatten
  have e2 : ps.flatten.length = (ps.take i).flatten.length + (ps.drop i).flatten.length := by rw [← List.length_append, ← List.flatten_append, List.take_append_drop]
  have hap := ofL_append (ps.take i).flatten qs.flatten
  have hap2 := ofL_append ((ps.take i).flatten ++ qs.flatten) (ps.drop i).flatten
  rw [← hap] at hap2
  rw [← hR] at hap2
  clear hap hR
  obtain ⟨R, hRR⟩ : ∃ R, (ps.take i ++ qs ++ ps.drop i).flatten = R := ⟨_, rfl⟩
  obtain ⟨s, hs⟩ : ∃ s, ofL ps.flatten = s := ⟨_, rfl⟩
  obtain ⟨t, ht⟩ : ∃ t, ofL qs.flatten = t := ⟨_, rfl⟩
  obtain ⟨x, hxx⟩ : ∃ x, (ps.take i).flatten.length = x := ⟨_, rfl⟩
  obtain ⟨y, hy⟩ : ∃ y, (ps.drop i).flatten.length = y := ⟨_, rfl⟩
  obtain ⟨sa, hsaa⟩ : ∃ s, ofL (ps.take i).flatten = s := ⟨_, rfl⟩
  obtain ⟨sb, hsbb⟩ : ∃ s, ofL (ps.drop i).flatten = s := ⟨_, rfl⟩
  rw [hRR] at hap2 ⊢
  rw [hs] at hx1 hx2 hsz C1 CV ⊢
  rw [ht] at CV2 hsz2 hap2 ⊢
  rw [hsaa] at hx1 hsa hap2
  rw [hsbb] at hx2 hsb hap2
  rw [hxx] at hx1 hx2 hsa e2 hpi C1
  rw [hy] at e2 hsb
  have b1 : x ≤ s.size := by omega
  have b2 : s.size ≤ 1000000 := by omega
  have b3 : t.size ≤ 1000000 := by omega
  have b4 : sa.size ≤ 1000000 := by omega
  have b5 : sb.size ≤ 1000000 := by omega
  have b6 : (sa ++ t).size ≤ 2000000 := by rw [ByteArray.size_append]; omega
  have b7 : sa.size + t.size ≤ 2000000 := by omega
  have HAP := Lib.hid hap2
  clear hsz hsz2 hsa hsb e2 hpi hRR hs ht hxx hy hsaa hsbb hl hl2 cV cV2 hap2
  go_enter Tryd.func23, Tryd.ntmps23
  go_wp2_with fail
  refine (CV.out _ hT).mono ?_
  rintro e w1 ⟨rfl, hb1⟩
  go_wp2_with fail
  refine (CV2.out _ (hT.below hb1)).mono ?_
  rintro e w2 ⟨rfl, hb2⟩
  go_wp2_with fail
  refine (C1.out _).mono ?_
  rintro e w3 ⟨rfl, hb3⟩
  go_wp2
  go_quiet (fail)
  go_wp2
  go_ret2
  exact ⟨ret_str2 HAP.out, below_drewN ((hb1.trans (hb2.mono hb1.size)).trans (hb3.mono (Nat.le_trans hb1.size hb2.size))) _⟩
set_option maxHeartbeats 400000 in
theorem put_out (ps qs : List (List UInt8)) (hps : AllP ps) (hqs : AllP qs) (a : Int) (ha : ¬ (0 ≤ a ∧ a ≤ ps.length)) (w : World) (hl : ps.flatten.length ≤ 1000000) (hl2 : qs.flatten.length ≤ 1000000) (hT : Tabs w)
    (ha1 : -9223372036854775808 ≤ a) (ha2 : a ≤ 9223372036854775807) :
    Calls Tryd.prog 23 #[.string (ofL ps.flatten), .int .i64 a, .string (ofL qs.flatten)] w fun e w' => e = .returned (.tuple #[.string ⟨#[]⟩, .int .i64 100]) ∧ Below w.heap.size w w' := by
  have cV := fun w hT => valid_any ps.flatten w (by omega) hT
  rw [valid_flatten ps hps] at cV
  have CV := Lib.hid cV
  have cV2 := fun w hT => valid_any qs.flatten w (by omega) hT
  rw [valid_flatten qs hqs] at cV2
  have CV2 := Lib.hid cV2
  have C1 := Lib.hid (fun w => place_out ps hps a ha w (by omega) ha1 ha2)
  clear cV cV2 ha
  go_enter Tryd.func23, Tryd.ntmps23
  go_wp2_with fail
  refine (CV.out _ hT).mono ?_
  rintro e w1 ⟨rfl, hb1⟩
  go_wp2_with fail
  refine (CV2.out _ (hT.below hb1)).mono ?_
  rintro e w2 ⟨rfl, hb2⟩
  go_wp2_with fail
  refine (C1.out _).mono ?_
  rintro e w3 ⟨⟨x, rfl⟩, hb3⟩
  go_wp2
  go_ret2
  exact ⟨rfl, (hb1.trans (hb2.mono hb1.size)).trans (hb3.mono (Nat.le_trans hb1.size hb2.size))⟩
set_option maxHeartbeats 400000 in
theorem put_bad1 (l m : List UInt8) (hv : Lib.validD l = false) (a : Int) (w : World) (hl : l.length ≤ 1000000) (hT : Tabs w) :
    Calls Tryd.prog 23 #[.string (ofL l), .int .i64 a, .string (ofL m)] w fun e w' => e = .returned (.tuple #[.string ⟨#[]⟩, .int .i64 60]) ∧ Below w.heap.size w w' := by
  have cV := valid_any l w (by omega) hT
  rw [hv] at cV
  have CV := Lib.hid cV
  clear cV hv
  go_enter Tryd.func23, Tryd.ntmps23
  go_wp2_with fail
  refine (CV.out).mono ?_
  rintro e w1 ⟨rfl, hb1⟩
  go_wp2
  go_ret2
  exact ⟨rfl, hb1⟩
set_option maxHeartbeats 400000 in
theorem put_bad2 (ps : List (List UInt8)) (hps : AllP ps) (m : List UInt8) (hv : Lib.validD m = false) (a : Int) (w : World) (hl : ps.flatten.length ≤ 1000000) (hm : m.length ≤ 1000000) (hT : Tabs w) :
    Calls Tryd.prog 23 #[.string (ofL ps.flatten), .int .i64 a, .string (ofL m)] w fun e w' => e = .returned (.tuple #[.string ⟨#[]⟩, .int .i64 60]) ∧ Below w.heap.size w w' := by
  have cV := fun w hT => valid_any ps.flatten w (by omega) hT
  rw [valid_flatten ps hps] at cV
  have CV := Lib.hid cV
  have cV2 := fun w hT => valid_any m w (by omega) hT
  rw [hv] at cV2
  have CV2 := Lib.hid cV2
  clear cV cV2 hv
  go_enter Tryd.func23, Tryd.ntmps23
  go_wp2_with fail
  refine (CV.out _ hT).mono ?_
  rintro e w1 ⟨rfl, hb1⟩
  go_wp2_with fail
  refine (CV2.out _ (hT.below hb1)).mono ?_
  rintro e w2 ⟨rfl, hb2⟩
  go_wp2
  go_ret2
  exact ⟨rfl, hb1.trans (hb2.mono hb1.size)⟩
end Go.Proofs.YtdkkfjcbdokdjaaDoor
