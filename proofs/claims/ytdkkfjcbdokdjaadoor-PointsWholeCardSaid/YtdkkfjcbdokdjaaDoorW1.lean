/- The walks of the small tests on letters: each returns what its plain function says, and leaves the world as it is. -/
import Derived.Test.YtdkkfjcbdokdjaaDoorChecked
import Derived.WalkKit
import Derived.WalkSpells
import Derived.WalkLawsBesides
import Derived.Deep.QuietTactic
import Derived.BigQuiet
import Derived.Lib.Hide
namespace Go.Proofs.YtdkkfjcbdokdjaaDoor
open Go.RowKit
def letterB (c : Int) : Bool := decide ((65 ≤ c ∧ c ≤ 90) ∨ (97 ≤ c ∧ c ≤ 122) ∨ c = 95)
def partB (c : Int) : Bool := decide ((65 ≤ c ∧ c ≤ 90) ∨ (97 ≤ c ∧ c ≤ 122) ∨ c = 95 ∨ (48 ≤ c ∧ c ≤ 57))
theorem ret_bool {a b : Bool} (h : a = b) : Ending.returned (.bool a) = Ending.returned (.bool b) := by rw [h]
theorem letter_mk {c : Int} {b : Bool} (h : b = true ↔ ((65 ≤ c ∧ c ≤ 90) ∨ (97 ≤ c ∧ c ≤ 122) ∨ c = 95)) : b = letterB c := by
  unfold letterB; rw [Bool.eq_iff_iff, h, decide_eq_true_iff]
theorem part_mk {c : Int} {b : Bool} (h : b = true ↔ ((65 ≤ c ∧ c ≤ 90) ∨ (97 ≤ c ∧ c ≤ 122) ∨ c = 95 ∨ (48 ≤ c ∧ c ≤ 57))) : b = partB c := by
  unfold partB; rw [Bool.eq_iff_iff, h, decide_eq_true_iff]
theorem letter_true {c : Int} (h : letterB c = true) : (65 ≤ c ∧ c ≤ 90) ∨ (97 ≤ c ∧ c ≤ 122) ∨ c = 95 := by unfold letterB at h; exact of_decide_eq_true h
theorem letter_false {c : Int} (h : letterB c = false) : ¬ ((65 ≤ c ∧ c ≤ 90) ∨ (97 ≤ c ∧ c ≤ 122) ∨ c = 95) := by unfold letterB at h; exact of_decide_eq_false h

set_option maxHeartbeats 400000 in
theorem letter_any (c : Int) (w : World) (h0 : 0 ≤ c) (h1 : c ≤ 2147483647) :
    Calls Tryd.prog 33 #[.int .i32 c] w fun e w' => e = .returned (.bool (letterB c)) ∧ w = w' := by
  go_enter Tryd.func33, Tryd.ntmps33
  go_wp2
  all_goals go_ret
  all_goals exact ⟨ret_bool (letter_mk (by simp; omega)), rfl⟩
set_option maxHeartbeats 400000 in
theorem part_any (c : Int) (w : World) (h0 : 0 ≤ c) (h1 : c ≤ 2147483647) :
    Calls Tryd.prog 32 #[.int .i32 c] w fun e w' => e = .returned (.bool (partB c)) ∧ w = w' := by
  cases hl : letterB c
  all_goals
    have cL : ∀ w : World, Calls Tryd.prog 33 #[.int .i32 c] w fun e w' => e = .returned (.bool (letterB c)) ∧ w = w' := fun w => letter_any c w h0 h1
    rw [hl] at cL
    have HL := Lib.hid hl
    have CL := Lib.hid cL
    clear hl cL
    go_enter Tryd.func32, Tryd.ntmps32
    go_wp2_with (go_at_call 33; refine (CL.out _).mono ?_; rintro e w' ⟨rfl, rfl⟩)
    all_goals go_ret
  all_goals first | (have h := letter_false HL.out; exact ⟨ret_bool (part_mk (by simp; omega)), rfl⟩) | (have h := letter_true HL.out; exact ⟨ret_bool (part_mk (by simp; omega)), rfl⟩)

/-! the document's, over pieces -/
def letterS (s : ByteArray) : Bool := if h : s.size = 1 then letterB (s[0]'(by omega)).toNat else false
def partS (s : ByteArray) : Bool := if h : s.size = 1 then partB (s[0]'(by omega)).toNat else false
theorem letterS_one {s : ByteArray} (h : s.size = 1) : letterS s = letterB (s[0]'(by omega)).toNat := by unfold letterS; rw [dif_pos h]
theorem letterS_no {s : ByteArray} (h : ¬ s.size = 1) : letterS s = false := by unfold letterS; rw [dif_neg h]
theorem partS_one {s : ByteArray} (h : s.size = 1) : partS s = partB (s[0]'(by omega)).toNat := by unfold partS; rw [dif_pos h]
theorem partS_no {s : ByteArray} (h : ¬ s.size = 1) : partS s = false := by unfold partS; rw [dif_neg h]
set_option maxHeartbeats 400000 in
theorem rletter_any (s : ByteArray) (w : World) (hs : s.size ≤ 9223372036854775807) :
    Calls Tryd.prog 34 #[.string s] w fun e w' => e = .returned (.bool (letterS s)) ∧ w = w' := by
  by_cases h1 : s.size = 1
  · rw [letterS_one h1]
    have hb : ((s.size : Int) == 1) = true := by rw [beq_iff_eq]; omega
    have hp : 0 < s.size := by omega
    obtain ⟨x, hx⟩ : ∃ x : UInt8, s[0]'hp = x := ⟨_, rfl⟩
    have hxl := x.toNat_lt
    rw [hx]
    clear h1
    go_enter Tryd.func34, Tryd.ntmps34
    go_wp2
    all_goals go_ret
    all_goals exact ⟨ret_bool (letter_mk (by simp; omega)), rfl⟩
  · rw [letterS_no h1]
    have hb : ((s.size : Int) == 1) = false := by rw [beq_eq_false_iff_ne]; omega
    go_enter Tryd.func34, Tryd.ntmps34
    go_wp2
    all_goals go_ret
    all_goals exact ⟨rfl, rfl⟩
set_option maxHeartbeats 400000 in
theorem rpart_any (s : ByteArray) (w : World) (hs : s.size ≤ 9223372036854775807) :
    Calls Tryd.prog 30 #[.string s] w fun e w' => e = .returned (.bool (partS s)) ∧ w = w' := by
  have cL := fun w => rletter_any s w hs
  by_cases h1 : s.size = 1
  · rw [partS_one h1]
    rw [letterS_one h1] at cL
    have hb : ((s.size : Int) == 1) = true := by rw [beq_iff_eq]; omega
    have hp : 0 < s.size := by omega
    obtain ⟨x, hx⟩ : ∃ x : UInt8, s[0]'hp = x := ⟨_, rfl⟩
    have hxl := x.toNat_lt
    rw [hx] at cL ⊢
    clear h1
    cases hl : letterB (x.toNat : Int)
    all_goals
      rw [hl] at cL
      have HL := Lib.hid hl
      have CL := Lib.hid cL
      clear hl cL
      go_enter Tryd.func30, Tryd.ntmps30
      go_wp2_with (go_at_call 34; refine (CL.out _).mono ?_; rintro e w' ⟨rfl, rfl⟩)
      all_goals go_ret
    all_goals first | (have h := letter_false HL.out; exact ⟨ret_bool (part_mk (by simp; omega)), rfl⟩) | (have h := letter_true HL.out; exact ⟨ret_bool (part_mk (by simp; omega)), rfl⟩)
  · rw [partS_no h1]
    rw [letterS_no h1] at cL
    have hb : ((s.size : Int) == 1) = false := by rw [beq_eq_false_iff_ne]; omega
    have CL := Lib.hid cL
    clear cL
    go_enter Tryd.func30, Tryd.ntmps30
    go_wp2_with (go_at_call 34; refine (CL.out _).mono ?_; rintro e w' ⟨rfl, rfl⟩)
    all_goals go_ret
    all_goals exact ⟨rfl, rfl⟩
end Go.Proofs.YtdkkfjcbdokdjaaDoor
