/- Lists of stamps, ids and dots, searched and compared, as the document's functions do it. -/
import Derived.Test.YtphapjbfaomblaaA
import Derived.Laws.StructEq
namespace Go.Proofs.Ytphapjbfaomblaa
open Go Go.RowKit
/-! structs held against one another -/
def eq2 (a b a' b' : Int) : Bool := a == a' && b == b'
def eq3 (a b c a' b' c' : Int) : Bool := a == a' && b == b' && c == c'
theorem str24 : Try.prog.underlying 31 = some (.struct (Try.prog.fieldsOf 31)) := by kernel_rfl
theorem str26 : Try.prog.underlying 33 = some (.struct (Try.prog.fieldsOf 33)) := by kernel_rfl
theorem st24 : Try.prog.stoodInHeld 31 = false := by kernel_rfl
theorem st26 : Try.prog.stoodInHeld 33 = false := by kernel_rfl
theorem gd24 : Try.prog.eqGuardType Try.prog.depth 31 = false := by kernel_rfl
theorem gd26 : Try.prog.eqGuardType Try.prog.depth 33 = false := by kernel_rfl
theorem eqIn24 (d : Nat) (a b a' b' : Int) (w : World) : (Op.equalIn (d + 2) 31 (.agg #[.int .i64 a, .int .i64 b]) (.agg #[.int .i64 a', .int .i64 b'])).run Try.prog w = .ok (eq2 a b a' b') w := by
  have u3 := Try.underlying3
  have a3 := Try.isAgg3
  have z3 := Try.sizeOf3
  rw [run_equalIn_agg w (d + 1) 31 _ _ str24 st24]
  simp only [Program.fieldsOf, Try.underlying31]
  go_simp
  unfold eq2
  by_cases h1 : a = a' <;> by_cases h2 : b = b' <;> simp [h1, h2]
theorem eql24 (a b a' b' : Int) (w : World) : (binOp .eql 31 (.agg #[.int .i64 a, .int .i64 b]) (.agg #[.int .i64 a', .int .i64 b'])).run Try.prog w = .ok (.bool (eq2 a b a' b')) w := by
  rw [run_eql_struct, show (10000 : Nat) = 9998 + 2 from rfl, eqIn24]; rfl
theorem neq24 (a b a' b' : Int) (w : World) : (binOp .neq 31 (.agg #[.int .i64 a, .int .i64 b]) (.agg #[.int .i64 a', .int .i64 b'])).run Try.prog w = .ok (.bool (!eq2 a b a' b')) w := by
  rw [run_neq_struct, show (10000 : Nat) = 9998 + 2 from rfl, eqIn24]; rfl
theorem eqIn26 (d : Nat) (a b c a' b' c' : Int) (w : World) : (Op.equalIn (d + 3) 33 (.agg #[.int .i64 a, .int .i64 b, .int .i64 c]) (.agg #[.int .i64 a', .int .i64 b', .int .i64 c'])).run Try.prog w = .ok (eq3 a b c a' b' c') w := by
  have u3 := Try.underlying3
  have a3 := Try.isAgg3
  have z3 := Try.sizeOf3
  have a24 := Try.isAgg31
  have z24 := Try.sizeOf31
  have hS := fun a b a' b' => eqIn24 d a b a' b' w
  rw [run_equalIn_agg w (d + 2) 33 _ _ str26 st26]
  simp only [Program.fieldsOf, Try.underlying33]
  go_simp
  unfold eq3
  by_cases h1 : a = a' <;> by_cases h2 : b = b' <;> by_cases h3 : c = c' <;> simp [h1, h2, h3]
theorem eql26 (a b c a' b' c' : Int) (w : World) : (binOp .eql 33 (.agg #[.int .i64 a, .int .i64 b, .int .i64 c]) (.agg #[.int .i64 a', .int .i64 b', .int .i64 c'])).run Try.prog w = .ok (.bool (eq3 a b c a' b' c')) w := by
  rw [run_eql_struct, show (10000 : Nat) = 9997 + 3 from rfl, eqIn26]; rfl
theorem neq26 (a b c a' b' c' : Int) (w : World) : (binOp .neq 33 (.agg #[.int .i64 a, .int .i64 b, .int .i64 c]) (.agg #[.int .i64 a', .int .i64 b', .int .i64 c'])).run Try.prog w = .ok (.bool (!eq3 a b c a' b' c')) w := by
  rw [run_neq_struct, show (10000 : Nat) = 9997 + 3 from rfl, eqIn26]; rfl
theorem eq2_iff (x y : Stamp) : eq2 x.T x.R y.T y.R = decide (x = y) := by
  obtain ⟨a, b, _, _⟩ := x
  obtain ⟨a', b', _, _⟩ := y
  unfold eq2
  rw [Bool.eq_iff_iff]
  simp [Stamp.mk.injEq]
theorem eq3_iff (x y : Id) : eq3 x.s.T x.s.R x.I y.s.T y.s.R y.I = decide (x = y) := by
  obtain ⟨⟨a, b, _, _⟩, c, _⟩ := x
  obtain ⟨⟨a', b', _, _⟩, c', _⟩ := y
  unfold eq3
  rw [Bool.eq_iff_iff]
  simp [Stamp.mk.injEq, Id.mk.injEq]
/-! rows of structs -/
theorem flat_len {α : Type} (enc : α → List Value) (k : Nat) (hk : ∀ x, (enc x).length = k) : ∀ L : List α, (L.flatMap enc).length = L.length * k
  | [] => by simp
  | a :: L => by rw [List.flatMap_cons, List.length_append, flat_len enc k hk L, hk, List.length_cons, Nat.add_mul]; omega
theorem flat_at {α : Type} (enc : α → List Value) (k : Nat) (hk : ∀ x, (enc x).length = k) : ∀ (L : List α) (i : Nat) (h : i < L.length) (j : Nat), j < k → (L.flatMap enc)[i * k + j]? = (enc L[i])[j]?
  | [], i, h, _, _ => absurd h (by simp)
  | a :: L, 0, _, j, hj => by
    rw [List.flatMap_cons, Nat.zero_mul, Nat.zero_add, List.getElem?_append_left (by rw [hk]; exact hj)]
    rfl
  | a :: L, i + 1, h, j, hj => by
    rw [List.flatMap_cons, List.getElem?_append_right (by rw [hk, Nat.add_mul]; omega), hk, show (i + 1) * k + j - k = i * k + j by rw [Nat.add_mul]; omega]
    exact flat_at enc k hk L i (by simpa using h) j hj
theorem len_of {α : Type} (enc : α → List Value) (k : Nat) (hk : ∀ x, (enc x).length = k) (h0 : 0 < k) {L : List α} {n : Nat} (h : (L.flatMap enc).length = n * k) : L.length = n := by
  rw [flat_len enc k hk] at h
  exact Nat.eq_of_mul_eq_mul_right h0 h
theorem rd_at {α : Type} (enc : α → List Value) (k : Nat) (hk : ∀ x, (enc x).length = k) (h0 : 0 < k) {L : List α} {w : World} {B c n : Nat} {A : Option Addr} (h : Rd w B k (.slice A n c) n (L.flatMap enc)) {i : Nat} (hi : i < L.length) :
    ∃ b o, A = some ⟨b, o, none⟩ ∧ b < B ∧ ∀ j u, (enc L[i])[j]? = some u → w.cell? ⟨b, o + i * k + j, none⟩ = some u := by
  have hn : 0 < n := by
    have := h.1
    rw [flat_len enc k hk] at this
    have := Nat.eq_of_mul_eq_mul_right h0 this
    omega
  obtain ⟨b, o, e, hb, hc⟩ := h.cells hn
  refine ⟨b, o, e, hb, fun j u hu => ?_⟩
  have hj : j < k := by rw [← hk L[i]]; exact (List.getElem?_eq_some_iff.1 hu).1
  rw [Nat.add_assoc]
  exact hc _ u (by rw [flat_at enc k hk L i hi j hj]; exact hu)
theorem not_take {α : Type} {L : List α} {x : α} {k : Nat} (hlt : k < L.length) (hno : x ∉ L.take k) (hx : ¬ L[k] = x) : x ∉ L.take (k + 1) := by
  rw [List.take_succ_eq_append_getElem hlt, List.mem_append]
  rintro (h | h)
  · exact hno h
  · exact hx (List.mem_singleton.1 h).symm
theorem same_take {α : Type} {L M : List α} {k : Nat} (hlt : k < L.length) (hlt' : k < M.length) (hno : L.take k = M.take k) (hx : L[k] = M[k]) : L.take (k + 1) = M.take (k + 1) := by
  rw [List.take_succ_eq_append_getElem hlt, List.take_succ_eq_append_getElem hlt', hno, hx]
def HasRel {α : Type} (L : List α) (x : α) (W0 : World) (i : Value) (wr : World) : Prop := ∃ k : Nat, k ≤ L.length ∧ i = .int .i64 k ∧ x ∉ L.take k ∧ ∃ q, wr = W0.drewN q
def SameRel {α : Type} (L M : List α) (W0 : World) (i : Value) (wr : World) : Prop := ∃ k : Nat, k ≤ L.length ∧ i = .int .i64 k ∧ L.take k = M.take k ∧ ∃ q, wr = W0.drewN q
set_option maxHeartbeats 1000000 in
theorem sameId_any (L M : List Id) (A A' : Option Addr) (n c n' c' B : Nat) (w : World) (hR : Rd w B 3 (.slice A n c) n (L.flatMap idC)) (hR' : Rd w B 3 (.slice A' n' c') n' (M.flatMap idC)) :
    Calls Try.prog 16 #[.slice A n c, .slice A' n' c'] w fun e w' => e = .returned (.bool (decide (L = M))) ∧ Grows w w' := by
  obtain ⟨_, hnc, hcm⟩ := hR.len
  obtain ⟨_, hnc', hcm'⟩ := hR'.len
  unfold maxLen at hcm hcm'
  obtain rfl := len_of idC 3 (fun _ => rfl) (by decide) hR.1
  obtain rfl := len_of idC 3 (fun _ => rfl) (by decide) hR'.1
  have HR := Lib.hid hR
  have HR' := Lib.hid hR'
  clear hR hR'
  by_cases hl : L.length = M.length
  · have hl' : ((L.length : Int) != (M.length : Int)) = false := by simp [hl]
    have HL := Lib.hid hl
    clear hl
    go_enter Try.func16, Try.ntmps16
    go_wp2
    go_loopw [5] (fun i wr => SameRel L M w i wr) (fun i _ => L.length - (intOf i).toNat)
    case atStart => exact ⟨0, Nat.zero_le _, rfl, rfl, 0, rfl⟩
    case round =>
      obtain ⟨k, hk, rfl, hno, q, rfl⟩ := hrel
      by_cases hlt : k < L.length
      · have hlt' : k < M.length := by have := HL.out; omega
        obtain ⟨b, o, rfl, hB', hcell⟩ := rd_at idC 3 (fun _ => rfl) (by decide) HR.out hlt
        obtain ⟨b', o', rfl, hB2, hcell'⟩ := rd_at idC 3 (fun _ => rfl) (by decide) HR'.out hlt'
        have d0 : w.cell? ⟨b, o + k * 3, none⟩ = some (.int .i64 L[k].s.T) := hcell 0 _ rfl
        have d1 : w.cell? ⟨b, o + k * 3 + 1, none⟩ = some (.int .i64 L[k].s.R) := hcell 1 _ rfl
        have d2 : w.cell? ⟨b, o + k * 3 + 2, none⟩ = some (.int .i64 L[k].I) := hcell 2 _ rfl
        have e0 : w.cell? ⟨b', o' + k * 3, none⟩ = some (.int .i64 M[k].s.T) := hcell' 0 _ rfl
        have e1 : w.cell? ⟨b', o' + k * 3 + 1, none⟩ = some (.int .i64 M[k].s.R) := hcell' 1 _ rfl
        have e2 : w.cell? ⟨b', o' + k * 3 + 2, none⟩ = some (.int .i64 M[k].I) := hcell' 2 _ rfl
        clear hcell hcell'
        have hq := neq26
        have hgd := gd26
        have hE := eq3_iff L[k] M[k]
        by_cases hx : L[k] = M[k]
        · rw [decide_eq_true hx] at hE
          have HX := Lib.hid (same_take hlt hlt' hno hx)
          clear hx hno
          go_wp2
          go_quiet (fail)
          go_wp2
          go_roundw
          case rel => exact ⟨k + 1, by omega, by go_num, HX.out, q + nq, rfl⟩
          case measure => simp [intOf]; omega
        · rw [decide_eq_false hx] at hE
          have HX := Lib.hid (show decide (L = M) = false from decide_eq_false (by rintro rfl; exact hx rfl))
          clear hx hno
          go_wp2
          go_quiet (fail)
          go_wp2
          go_ret
          exact ⟨ret_b HX.out.symm, ((Grows.refl w).drewN q).drewN nq⟩
      · have HX := Lib.hid (show decide (L = M) = true from decide_eq_true (by rw [List.take_of_length_le (by omega), List.take_of_length_le (by have := HL.out; omega)] at hno; exact hno))
        clear hno
        go_wp2
        go_ret
        exact ⟨ret_b HX.out.symm, (Grows.refl w).drewN q⟩
  · have hl' : ((L.length : Int) != (M.length : Int)) = true := by simp; omega
    have HX := Lib.hid (show decide (L = M) = false from decide_eq_false (by rintro rfl; exact hl rfl))
    clear hl
    go_enter Try.func16, Try.ntmps16
    go_wp2
    go_ret
    exact ⟨ret_b HX.out.symm, Grows.refl w⟩
end Go.Proofs.Ytphapjbfaomblaa
