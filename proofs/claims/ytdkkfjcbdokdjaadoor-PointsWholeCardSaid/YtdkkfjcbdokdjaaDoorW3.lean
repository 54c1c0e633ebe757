/- The walks of joining pieces, and of holding lists of texts and of numbers against one another. -/
import Derived.Test.YtdkkfjcbdokdjaaDoorChecked
import Derived.Test.YtdkkfjcbdokdjaaDoorV1
import Derived.WalkKit
import Derived.WalkSpells
import Derived.WalkLawsBesides
import Derived.Deep.QuietTactic
import Derived.BigQuiet
import Derived.Lib.Hide
namespace Go.Proofs.YtdkkfjcbdokdjaaDoor
open Go.RowKit
theorem ret_bool' {a b : Bool} (h : a = b) : Ending.returned (.bool a) = Ending.returned (.bool b) := by rw [h]
theorem ret_str {a b : List UInt8} (h : a = b) : Ending.returned (.string (ofL a)) = Ending.returned (str b) := by rw [h]; rfl
theorem flatten_take_succ (ls : List (List UInt8)) (k : Nat) (h : k < ls.length) : (ls.take (k + 1)).flatten = (ls.take k).flatten ++ ls[k] := by
  rw [List.take_succ_eq_append_getElem h, List.flatten_append]
  simp
theorem flatten_take_le (ls : List (List UInt8)) (k : Nat) : (ls.take k).flatten.length ≤ ls.flatten.length := by
  have : ls.flatten = (ls.take k).flatten ++ (ls.drop k).flatten := by rw [← List.flatten_append, List.take_append_drop]
  rw [this, List.length_append]; omega
set_option maxHeartbeats 400000 in
theorem join_any (A : Option Addr) (n c : Nat) (ls : List (List UInt8)) (B : Nat) (w : World) (h : Rd w B 1 (.slice A n c) n (ls.map str)) (hl : ls.flatten.length ≤ 1000000000) :
    Calls Tryd.prog 31 #[.slice A n c] w fun e w' => e = .returned (str ls.flatten) ∧ w = w' := by
  have hn : ls.length = n := by have := h.1; simpa using this
  have hm := h.len.2
  unfold maxLen at hm
  obtain ⟨F, hF⟩ : ∃ F, ls.flatten = F := ⟨_, rfl⟩
  rw [hF]
  have HF := Lib.hid hF
  have H := Lib.hid h
  have HN := Lib.hid hn
  clear hn hF h
  go_enter Tryd.func31, Tryd.ntmps31
  go_wp2
  go_loop [3, 4] (fun t i => ∃ k : Nat, k ≤ n ∧ i = .int .i64 k ∧ t = .string (ofL (ls.take k).flatten)) (fun _ i => n - (intOf i).toNat)
  case atStart => exact ⟨0, Nat.zero_le _, rfl, by simp; rfl⟩
  case round =>
    obtain ⟨k, hk, rfl, rfl⟩ := hrel
    by_cases hlt : k < n
    · obtain ⟨b, o, rfl, hb, hc⟩ := H.out.cells (by omega)
      have hkl : k < ls.length := by have := HN.out; omega
      have c1 := hc k (str ls[k]) (by simp [hkl])
      have hs := flatten_take_succ ls k hkl
      have hle := flatten_take_le ls (k + 1)
      rw [HF.out] at hle hl
      obtain ⟨x, hx⟩ : ∃ x, ls[k] = x := ⟨_, rfl⟩
      rw [hx] at c1 hs
      unfold str at c1
      obtain ⟨y, hy⟩ : ∃ y, (ls.take k).flatten = y := ⟨_, rfl⟩
      rw [hy] at hs ⊢
      have hsz : (ofL y).size + (ofL x).size ≤ 1000000000 := by rw [ofL_size, ofL_size]; rw [hs, List.length_append] at hle; omega
      have HS := Lib.hid hs
      clear hs hc hx hy hkl hle
      go_wp2
      go_round
      case rel => exact ⟨k + 1, by omega, by go_num, by rw [HS.out, ofL_append]⟩
      case measure => simp [intOf]; omega
    · go_wp2
      go_ret
      exact ⟨ret_str (by have := HN.out; rw [List.take_of_length_le (by omega)]; exact HF.out), rfl⟩
theorem ofL_neq {x y : List UInt8} (h : x ≠ y) : ((ofL x).toList == (ofL y).toList) = false := by
  rw [Lib.toList_data, Lib.toList_data, ofL_toList, ofL_toList]
  exact beq_eq_false_iff_ne.2 h
theorem ofL_ne {x y : List UInt8} (h : x ≠ y) : ofL x ≠ ofL y := fun e => h (ofL_inj e)
set_option maxHeartbeats 400000 in
theorem sameTexts_any (A1 A2 : Option Addr) (n m c1 c2 : Nat) (xs ys : List (List UInt8)) (B : Nat) (w : World) (h1 : Rd w B 1 (.slice A1 n c1) n (xs.map str)) (h2 : Rd w B 1 (.slice A2 m c2) m (ys.map str)) :
    Calls Tryd.prog 14 #[.slice A1 n c1, .slice A2 m c2] w fun e w' => e = .returned (.bool (decide (xs = ys))) ∧ Below w.heap.size w w' := by
  have hn : xs.length = n := by have := h1.1; simpa using this
  have hm : ys.length = m := by have := h2.1; simpa using this
  have hm1 := h1.len.2
  have hm2 := h2.len.2
  unfold maxLen at hm1 hm2
  by_cases hnm : n = m
  · subst hnm
    have H1 := Lib.hid h1
    have H2 := Lib.hid h2
    have HN := Lib.hid hn
    have HM := Lib.hid hm
    clear hn hm h1 h2
    obtain ⟨R, hR⟩ : ∃ R, decide (xs = ys) = R := ⟨_, rfl⟩
    rw [hR]
    have HR := Lib.hid hR
    clear hR
    have hb0 : ((n : Int) != n) = false := by simp
    go_enter Tryd.func14, Tryd.ntmps14
    go_wp2
    go_loopw [5] (fun i wr => ∃ k : Nat, k ≤ n ∧ i = .int .i64 k ∧ Hid (xs.take k = ys.take k) ∧ Below w.heap.size w wr ∧ ∃ q, wr = w.drewN q) (fun i _ => n - (intOf i).toNat)
    case atStart => exact ⟨0, Nat.zero_le _, rfl, Lib.hid (by simp), Below.refl _ _, 0, rfl⟩
    case round =>
      obtain ⟨k, hk, rfl, HT, hbw, q, rfl⟩ := hrel
      by_cases hlt : k < n
      · obtain ⟨b1, o1, rfl, _, hc1⟩ := H1.out.cells (by omega)
        obtain ⟨b2, o2, rfl, _, hc2⟩ := H2.out.cells (by omega)
        have hkl : k < xs.length := by have := HN.out; omega
        have hkm : k < ys.length := by have := HM.out; omega
        have d1 : w.cell? ⟨b1, o1 + k, none⟩ = some (str xs[k]) := hc1 k (str xs[k]) (by simp [hkl])
        have d2 : w.cell? ⟨b2, o2 + k, none⟩ = some (str ys[k]) := hc2 k (str ys[k]) (by simp [hkm])
        have t1 := List.take_succ_eq_append_getElem hkl
        have t2 := List.take_succ_eq_append_getElem hkm
        obtain ⟨x, hx⟩ : ∃ x, xs[k] = x := ⟨_, rfl⟩
        obtain ⟨y, hy⟩ : ∃ y, ys[k] = y := ⟨_, rfl⟩
        rw [hx] at d1 t1
        rw [hy] at d2 t2
        unfold str at d1 d2
        have T1 := Lib.hid t1
        have T2 := Lib.hid t2
        have HX := Lib.hid hx
        have HY := Lib.hid hy
        clear t1 t2 hx hy hc1 hc2
        have h0 : (0 : Int) ≤ (k : Int) := by omega
        have hki : (k : Int) < (n : Int) := by omega
        by_cases hxy : x = y
        · subst hxy
          go_wp2
          go_quiet (fail)
          go_wp2
          go_roundw
          case rel => exact ⟨k + 1, by omega, by go_num, Lib.hid (by rw [T1.out, T2.out, HT.out]), below_drewN (Below.refl _ _) _, _, rfl⟩
          case measure => simp [intOf]; omega
        · have hR0 : R = false := by
            rw [← HR.out]
            exact decide_eq_false (fun e => hxy (by rw [← HX.out, ← HY.out]; simp [e]))
          have HR0 := Lib.hid hR0
          clear hR0
          have hne := ofL_neq hxy
          clear hxy
          go_wp2
          go_quiet (fail)
          go_wp2
          go_ret
          exact ⟨ret_bool' HR0.out.symm, below_drewN (below_drewN (Below.refl _ _) _) _⟩
      · have hR1 : R = true := by
          rw [← HR.out]
          have e := HT.out
          rw [List.take_of_length_le (by have := HN.out; omega), List.take_of_length_le (by have := HM.out; omega)] at e
          exact decide_eq_true e
        have HR1 := Lib.hid hR1
        clear hR1
        go_wp2
        go_ret
        exact ⟨ret_bool' HR1.out.symm, hbw⟩
  · have hR : decide (xs = ys) = false := decide_eq_false (fun e => hnm (by rw [← hn, ← hm, e]))
    rw [hR]
    clear hR hn hm h1 h2
    have hb0 : ((n : Int) != (m : Int)) = true := by rw [bne_iff_ne]; omega
    clear hnm
    go_enter Tryd.func14, Tryd.ntmps14
    go_wp2
    go_ret
    exact ⟨rfl, Below.refl _ _⟩
def num (z : Int) : Value := .int .i64 z
set_option maxHeartbeats 400000 in
theorem same_any (A1 A2 : Option Addr) (n m c1 c2 : Nat) (xs ys : List Int) (B : Nat) (w : World) (h1 : Rd w B 1 (.slice A1 n c1) n (xs.map num)) (h2 : Rd w B 1 (.slice A2 m c2) m (ys.map num)) :
    Calls Tryd.prog 25 #[.slice A1 n c1, .slice A2 m c2] w fun e w' => e = .returned (.bool (decide (xs = ys))) ∧ Below w.heap.size w w' := by
  have hn : xs.length = n := by have := h1.1; simpa using this
  have hm : ys.length = m := by have := h2.1; simpa using this
  have hm1 := h1.len.2
  have hm2 := h2.len.2
  unfold maxLen at hm1 hm2
  by_cases hnm : n = m
  · subst hnm
    have H1 := Lib.hid h1
    have H2 := Lib.hid h2
    have HN := Lib.hid hn
    have HM := Lib.hid hm
    clear hn hm h1 h2
    obtain ⟨R, hR⟩ : ∃ R, decide (xs = ys) = R := ⟨_, rfl⟩
    rw [hR]
    have HR := Lib.hid hR
    clear hR
    have hb0 : ((n : Int) != n) = false := by simp
    go_enter Tryd.func25, Tryd.ntmps25
    go_wp2
    go_loopw [5] (fun i wr => ∃ k : Nat, k ≤ n ∧ i = .int .i64 k ∧ Hid (xs.take k = ys.take k) ∧ Below w.heap.size w wr ∧ ∃ q, wr = w.drewN q) (fun i _ => n - (intOf i).toNat)
    case atStart => exact ⟨0, Nat.zero_le _, rfl, Lib.hid (by simp), Below.refl _ _, 0, rfl⟩
    case round =>
      obtain ⟨k, hk, rfl, HT, hbw, q, rfl⟩ := hrel
      by_cases hlt : k < n
      · obtain ⟨b1, o1, rfl, _, hc1⟩ := H1.out.cells (by omega)
        obtain ⟨b2, o2, rfl, _, hc2⟩ := H2.out.cells (by omega)
        have hkl : k < xs.length := by have := HN.out; omega
        have hkm : k < ys.length := by have := HM.out; omega
        have d1 : w.cell? ⟨b1, o1 + k, none⟩ = some (num xs[k]) := hc1 k (num xs[k]) (by simp [hkl])
        have d2 : w.cell? ⟨b2, o2 + k, none⟩ = some (num ys[k]) := hc2 k (num ys[k]) (by simp [hkm])
        have t1 := List.take_succ_eq_append_getElem hkl
        have t2 := List.take_succ_eq_append_getElem hkm
        obtain ⟨x, hx⟩ : ∃ x, xs[k] = x := ⟨_, rfl⟩
        obtain ⟨y, hy⟩ : ∃ y, ys[k] = y := ⟨_, rfl⟩
        rw [hx] at d1 t1
        rw [hy] at d2 t2
        unfold num at d1 d2
        have T1 := Lib.hid t1
        have T2 := Lib.hid t2
        have HX := Lib.hid hx
        have HY := Lib.hid hy
        clear t1 t2 hx hy hc1 hc2
        have h0 : (0 : Int) ≤ (k : Int) := by omega
        have hki : (k : Int) < (n : Int) := by omega
        by_cases hxy : x = y
        · subst hxy
          go_wp2
          go_quiet (fail)
          go_wp2
          go_roundw
          case rel => exact ⟨k + 1, by omega, by go_num, Lib.hid (by rw [T1.out, T2.out, HT.out]), below_drewN (Below.refl _ _) _, _, rfl⟩
          case measure => simp [intOf]; omega
        · have hR0 : R = false := by
            rw [← HR.out]
            exact decide_eq_false (fun e => hxy (by rw [← HX.out, ← HY.out]; simp [e]))
          have HR0 := Lib.hid hR0
          clear hR0
          have hne : (x != y) = true := by rw [bne_iff_ne]; exact hxy
          clear hxy
          go_wp2
          go_quiet (fail)
          go_wp2
          go_ret
          exact ⟨ret_bool' HR0.out.symm, below_drewN (below_drewN (Below.refl _ _) _) _⟩
      · have hR1 : R = true := by
          rw [← HR.out]
          have e := HT.out
          rw [List.take_of_length_le (by have := HN.out; omega), List.take_of_length_le (by have := HM.out; omega)] at e
          exact decide_eq_true e
        have HR1 := Lib.hid hR1
        clear hR1
        go_wp2
        go_ret
        exact ⟨ret_bool' HR1.out.symm, hbw⟩
  · have hR : decide (xs = ys) = false := decide_eq_false (fun e => hnm (by rw [← hn, ← hm, e]))
    rw [hR]
    clear hR hn hm h1 h2
    have hb0 : ((n : Int) != (m : Int)) = true := by rw [bne_iff_ne]; omega
    clear hnm
    go_enter Tryd.func25, Tryd.ntmps25
    go_wp2
    go_ret
    exact ⟨rfl, Below.refl _ _⟩
end Go.Proofs.YtdkkfjcbdokdjaaDoor
