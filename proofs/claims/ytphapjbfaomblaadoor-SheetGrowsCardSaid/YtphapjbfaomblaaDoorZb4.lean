/- Texts of this seat, one behind the other: W2, W3, W4, Shelf, M2. -/
import Derived.Test.YtphapjbfaomblaaDoorChecked
import Derived.Test.YtphapjbfaomblaaDoorZb2
import Derived.WalkKit
import Derived.WalkSpells
import Derived.WalkLawsBesides
import Derived.Lib.Hide
import Derived.Shelf.Unicode.WordAny
import Derived.Test.YtphapjbfaomblaaDoorZb1
import Derived.Deep.QuietTactic
import Derived.BigQuiet
import Derived.Shelf.SlGeneric
import Derived.Ground.SlsfProg
import Derived.Shelf.SlSortCmp.WholeK
import Derived.Shelf.Strings.BuilderK
import Derived.Shelf.Unicode.ValidAny
import Derived.Test.YtphapjbfaomblaaDoorProg
/- The walk of the document's look at a text's first code point. -/
namespace Go.Proofs.YtphapjbfaomblaaDoor
open Go.RowKit Go.Lib
/-- how many bytes the first code point has, as the document's code says -/
def firstR (m b0 b1 b2 b3 : Nat) : Option Nat :=
  if b0 < 128 then some 1
  else if 194 ≤ b0 ∧ b0 < 224 then (if m < 2 ∨ b1 < 128 ∨ 192 ≤ b1 then none else some 2)
  else if 224 ≤ b0 ∧ b0 < 240 then (if m < 3 ∨ b1 < 128 ∨ 192 ≤ b1 ∨ b2 < 128 ∨ 192 ≤ b2 then none
    else if (b0 - 224) * 4096 + (b1 - 128) * 64 + (b2 - 128) < 2048 ∨ (55296 ≤ (b0 - 224) * 4096 + (b1 - 128) * 64 + (b2 - 128) ∧ (b0 - 224) * 4096 + (b1 - 128) * 64 + (b2 - 128) < 57344) then none else some 3)
  else if 240 ≤ b0 ∧ b0 < 245 then (if m < 4 ∨ b1 < 128 ∨ 192 ≤ b1 ∨ b2 < 128 ∨ 192 ≤ b2 ∨ b3 < 128 ∨ 192 ≤ b3 then none
    else if (b0 - 240) * 262144 + (b1 - 128) * 4096 + (b2 - 128) * 64 + (b3 - 128) < 65536 ∨ 1114111 < (b0 - 240) * 262144 + (b1 - 128) * 4096 + (b2 - 128) * 64 + (b3 - 128) then none else some 4)
  else none
theorem firstR_eq (m b0 b1 b2 b3 : Nat) (h0 : b0 < 256) (h1 : b1 < 256) (h2 : b2 < 256) (h3 : b3 < 256) :
    firstR m b0 b1 b2 b3 = if (decodeN m b0 b1 b2 b3).1 = 65533 ∧ (decodeN m b0 b1 b2 b3).2 = 1 then none else some (decodeN m b0 b1 b2 b3).2 := by
  unfold firstR
  by_cases c0 : b0 < 128
  · have e : decodeN m b0 b1 b2 b3 = (b0, 1) := by unfold decodeN; rw [if_pos c0]
    rw [if_pos c0, e]; dsimp only; rw [if_neg (by omega)]
  rw [if_neg c0]
  have bad1 : decodeN m b0 b1 b2 b3 = (65533, 1) → (none : Option Nat) = if (decodeN m b0 b1 b2 b3).1 = 65533 ∧ (decodeN m b0 b1 b2 b3).2 = 1 then none else some (decodeN m b0 b1 b2 b3).2 := by
    intro e; rw [e, if_pos ⟨rfl, rfl⟩]
  have good : ∀ c n, decodeN m b0 b1 b2 b3 = (c, n) → n ≠ 1 → some n = if (decodeN m b0 b1 b2 b3).1 = 65533 ∧ (decodeN m b0 b1 b2 b3).2 = 1 then none else some (decodeN m b0 b1 b2 b3).2 := by
    intro c n e hn; rw [e, if_neg (by intro h; exact hn h.2)]
  have sh := decodeN_shape m b0 b1 b2 b3
  by_cases c1 : 194 ≤ b0 ∧ b0 < 224
  · rw [if_pos c1]
    by_cases d1 : m < 2 ∨ b1 < 128 ∨ 192 ≤ b1
    · rw [if_pos d1]
      refine bad1 ?_
      rcases sh with ⟨c, e⟩ | ⟨e1, e2, e3, ev, e⟩ | ⟨e1, e2, e3, e4, ev, es, e⟩ | ⟨e1, e2, e3, e4, e5, ev, ew, e⟩ | e
      all_goals first | exact e | (exfalso; omega)
    · rw [if_neg d1]
      refine good (b0 % 32 * 64 + b1 % 64) 2 ?_ (by omega)
      unfold decodeN
      rw [if_neg c0, if_pos (by omega), if_pos (by omega)]
  rw [if_neg c1]
  by_cases c2 : 224 ≤ b0 ∧ b0 < 240
  · rw [if_pos c2]
    by_cases d1 : m < 3 ∨ b1 < 128 ∨ 192 ≤ b1 ∨ b2 < 128 ∨ 192 ≤ b2
    · rw [if_pos d1]
      refine bad1 ?_
      rcases sh with ⟨c, e⟩ | ⟨e1, e2, e3, ev, e⟩ | ⟨e1, e2, e3, e4, ev, es, e⟩ | ⟨e1, e2, e3, e4, e5, ev, ew, e⟩ | e
      all_goals first | exact e | (exfalso; omega)
    · rw [if_neg d1]
      by_cases d2 : (b0 - 224) * 4096 + (b1 - 128) * 64 + (b2 - 128) < 2048 ∨ (55296 ≤ (b0 - 224) * 4096 + (b1 - 128) * 64 + (b2 - 128) ∧ (b0 - 224) * 4096 + (b1 - 128) * 64 + (b2 - 128) < 57344)
      · rw [if_pos d2]
        refine bad1 ?_
        rcases sh with ⟨c, e⟩ | ⟨e1, e2, e3, ev, e⟩ | ⟨e1, e2, e3, e4, ev, es, e⟩ | ⟨e1, e2, e3, e4, e5, ev, ew, e⟩ | e
        all_goals first | exact e | (exfalso; omega)
      · rw [if_neg d2]
        refine good (b0 % 16 * 4096 + b1 % 64 * 64 + b2 % 64) 3 ?_ (by omega)
        unfold decodeN
        rw [if_neg c0, if_neg (by omega), if_pos (by omega), if_pos (by omega)]
  rw [if_neg c2]
  by_cases c3 : 240 ≤ b0 ∧ b0 < 245
  · rw [if_pos c3]
    by_cases d1 : m < 4 ∨ b1 < 128 ∨ 192 ≤ b1 ∨ b2 < 128 ∨ 192 ≤ b2 ∨ b3 < 128 ∨ 192 ≤ b3
    · rw [if_pos d1]
      refine bad1 ?_
      rcases sh with ⟨c, e⟩ | ⟨e1, e2, e3, ev, e⟩ | ⟨e1, e2, e3, e4, ev, es, e⟩ | ⟨e1, e2, e3, e4, e5, ev, ew, e⟩ | e
      all_goals first | exact e | (exfalso; omega)
    · rw [if_neg d1]
      by_cases d2 : (b0 - 240) * 262144 + (b1 - 128) * 4096 + (b2 - 128) * 64 + (b3 - 128) < 65536 ∨ 1114111 < (b0 - 240) * 262144 + (b1 - 128) * 4096 + (b2 - 128) * 64 + (b3 - 128)
      · rw [if_pos d2]
        refine bad1 ?_
        rcases sh with ⟨c, e⟩ | ⟨e1, e2, e3, ev, e⟩ | ⟨e1, e2, e3, e4, ev, es, e⟩ | ⟨e1, e2, e3, e4, e5, ev, ew, e⟩ | e
        all_goals first | exact e | (exfalso; omega)
      · rw [if_neg d2]
        refine good (b0 % 8 * 262144 + b1 % 64 * 4096 + b2 % 64 * 64 + b3 % 64) 4 ?_ (by omega)
        unfold decodeN
        rw [if_neg c0, if_neg (by omega), if_neg (by omega), if_pos (by omega), if_pos (by omega)]
  rw [if_neg c3]
  refine bad1 ?_
  rcases sh with ⟨c, e⟩ | ⟨e1, e2, e3, ev, e⟩ | ⟨e1, e2, e3, e4, ev, es, e⟩ | ⟨e1, e2, e3, e4, e5, ev, ew, e⟩ | e
  all_goals first | exact e | (exfalso; omega)

def FirstPost (r : Option Nat) (e : Ending) : Prop := (r = none ∧ e = .returned (.tuple #[.int .i64 0, .int .i64 0, .bool false])) ∨ (∃ n : Nat, r = some n ∧ ∃ c, e = .returned (.tuple #[.int .i64 c, .int .i64 n, .bool true]))
theorem FirstPost.no {r : Option Nat} (h : r = none) : FirstPost r (.returned (.tuple #[.int .i64 0, .int .i64 0, .bool false])) := .inl ⟨h, rfl⟩
theorem FirstPost.yes {r : Option Nat} {n : Nat} {c : Int} (h : r = some n) : FirstPost r (.returned (.tuple #[.int .i64 c, .int .i64 n, .bool true])) := .inr ⟨n, h, c, rfl⟩
def Rel3 (x0 x1 x2 : Nat) (c i : Value) : Prop :=
  (i = .int .i64 1 ∧ c = .int .i64 ((x0 : Int) - 224)) ∨ (i = .int .i64 2 ∧ c = .int .i64 (((x0 : Int) - 224) * 64 + x1 - 128) ∧ 128 ≤ x1 ∧ x1 < 192) ∨
  (i = .int .i64 3 ∧ c = .int .i64 ((((x0 : Int) - 224) * 64 + x1 - 128) * 64 + x2 - 128) ∧ 128 ≤ x1 ∧ x1 < 192 ∧ 128 ≤ x2 ∧ x2 < 192)
set_option maxRecDepth 100000 in
set_option maxHeartbeats 1000000 in
theorem first_three (s : ByteArray) (w : World) (hs : s.size ≤ 9223372036854775807) (x0 x1 x2 : UInt8) (h2 : 2 < s.size) (e0 : s[0]'(by omega) = x0) (e1 : s[1]'(by omega) = x1) (e2 : s[2]'(by omega) = x2)
    (g0 : 224 ≤ x0.toNat) (g1 : x0.toNat < 240) (x3 : Nat) :
    Calls Tryd.prog 86 #[.string s] w fun e w' => FirstPost (firstR s.size x0.toNat x1.toNat x2.toNat x3) e ∧ w = w' := by
  have k1 := x1.toNat_lt
  have k2 := x2.toNat_lt
  have hf : firstR s.size x0.toNat x1.toNat x2.toNat x3 = (if x1.toNat < 128 ∨ 192 ≤ x1.toNat ∨ x2.toNat < 128 ∨ 192 ≤ x2.toNat then none
      else if (x0.toNat - 224) * 4096 + (x1.toNat - 128) * 64 + (x2.toNat - 128) < 2048 ∨ (55296 ≤ (x0.toNat - 224) * 4096 + (x1.toNat - 128) * 64 + (x2.toNat - 128) ∧ (x0.toNat - 224) * 4096 + (x1.toNat - 128) * 64 + (x2.toNat - 128) < 57344) then none else some 3) := by
    unfold firstR
    rw [if_neg (by omega), if_neg (by omega), if_pos ⟨g0, g1⟩]
    by_cases c : x1.toNat < 128 ∨ 192 ≤ x1.toNat ∨ x2.toNat < 128 ∨ 192 ≤ x2.toNat
    · rw [if_pos c, if_pos (by omega)]
    · rw [if_neg c, if_neg (by omega)]
  obtain ⟨R, hR⟩ : ∃ R, firstR s.size x0.toNat x1.toNat x2.toNat x3 = R := ⟨_, rfl⟩
  rw [hR] at hf ⊢
  clear hR
  have HF := Lib.hid hf
  clear hf
  have z0 : 0 < s.size := by omega
  have z1 : 1 < s.size := by omega
  go_enter Tryd.func86, Tryd.ntmps86
  go_wp2
  go_loop [7, 8] (fun c i => Rel3 x0.toNat x1.toNat x2.toNat c i) (fun _ i => 4 - (RowKit.intOf i).toNat)
  case atStart => exact .inl ⟨rfl, rfl⟩
  case round =>
    rcases hrel with ⟨rfl, rfl⟩ | ⟨rfl, rfl, q1, q2⟩ | ⟨rfl, rfl, q1, q2, q3, q4⟩
    · by_cases c : x1.toNat < 128 ∨ 192 ≤ x1.toNat
      · have hn : R = none := by rw [HF.out, if_pos (by omega)]
        have HN := Lib.hid hn
        clear hn HF
        rcases c with c | c
        all_goals
          go_wp2
          go_ret3
          exact ⟨FirstPost.no HN.out, rfl⟩
      · have c1 : 128 ≤ x1.toNat := by omega
        have c2 : x1.toNat < 192 := by omega
        clear c
        go_wp2
        go_round
        case rel => exact ⟨_, _, _, _, _, (.inr (.inl ⟨rfl, rfl, c1, c2⟩) : Rel3 _ _ _ _ _), rfl, rfl, rfl, rfl, rfl⟩
        case measure => simp [RowKit.intOf]
    · by_cases c : x2.toNat < 128 ∨ 192 ≤ x2.toNat
      · have hn : R = none := by rw [HF.out, if_pos (by omega)]
        have HN := Lib.hid hn
        clear hn HF
        rcases c with c | c
        all_goals
          go_wp2
          go_ret3
          exact ⟨FirstPost.no HN.out, rfl⟩
      · have c1 : 128 ≤ x2.toNat := by omega
        have c2 : x2.toNat < 192 := by omega
        clear c
        go_wp2
        go_round
        case rel => exact ⟨_, _, _, _, _, (.inr (.inr ⟨rfl, rfl, q1, q2, c1, c2⟩) : Rel3 _ _ _ _ _), rfl, rfl, rfl, rfl, rfl⟩
        case measure => simp [RowKit.intOf]
    · have hx := HF.out
      rw [if_neg (by omega)] at hx
      clear HF
      have HF := Lib.hid hx
      clear hx
      go_wp2
      all_goals go_ret3
      all_goals first
        | exact ⟨FirstPost.no (by rw [HF.out, if_pos (by omega)]), rfl⟩
        | exact ⟨FirstPost.yes (n := 3) (by rw [HF.out, if_neg (by omega)]), rfl⟩

def Rel2 (x0 x1 : Nat) (c i : Value) : Prop :=
  (i = .int .i64 1 ∧ c = .int .i64 ((x0 : Int) - 192)) ∨ (i = .int .i64 2 ∧ c = .int .i64 (((x0 : Int) - 192) * 64 + x1 - 128) ∧ 128 ≤ x1 ∧ x1 < 192)
set_option maxRecDepth 100000 in
set_option maxHeartbeats 1000000 in
theorem first_two (s : ByteArray) (w : World) (hs : s.size ≤ 9223372036854775807) (x0 x1 : UInt8) (h2 : 1 < s.size) (e0 : s[0]'(by omega) = x0) (e1 : s[1]'(by omega) = x1)
    (g0 : 194 ≤ x0.toNat) (g1 : x0.toNat < 224) (x2 x3 : Nat) :
    Calls Tryd.prog 86 #[.string s] w fun e w' => FirstPost (firstR s.size x0.toNat x1.toNat x2 x3) e ∧ w = w' := by
  have k1 := x1.toNat_lt
  have hf : firstR s.size x0.toNat x1.toNat x2 x3 = (if x1.toNat < 128 ∨ 192 ≤ x1.toNat then none else some 2) := by
    unfold firstR
    rw [if_neg (by omega), if_pos (by omega)]
    by_cases c : x1.toNat < 128 ∨ 192 ≤ x1.toNat
    · rw [if_pos c, if_pos (by omega)]
    · rw [if_neg c, if_neg (by omega)]
  obtain ⟨R, hR⟩ : ∃ R, firstR s.size x0.toNat x1.toNat x2 x3 = R := ⟨_, rfl⟩
  rw [hR] at hf ⊢
  clear hR
  have HF := Lib.hid hf
  clear hf
  have z0 : 0 < s.size := by omega
  go_enter Tryd.func86, Tryd.ntmps86
  go_wp2
  go_loop [7, 8] (fun c i => Rel2 x0.toNat x1.toNat c i) (fun _ i => 4 - (RowKit.intOf i).toNat)
  case atStart => exact .inl ⟨rfl, rfl⟩
  case round =>
    rcases hrel with ⟨rfl, rfl⟩ | ⟨rfl, rfl, q1, q2⟩
    · by_cases c : x1.toNat < 128 ∨ 192 ≤ x1.toNat
      · have hn : R = none := by rw [HF.out, if_pos (by omega)]
        have HN := Lib.hid hn
        clear hn HF
        rcases c with c | c
        all_goals
          go_wp2
          go_ret3
          exact ⟨FirstPost.no HN.out, rfl⟩
      · have c1 : 128 ≤ x1.toNat := by omega
        have c2 : x1.toNat < 192 := by omega
        clear c
        go_wp2
        go_round
        case rel => exact ⟨_, _, _, _, _, (.inr ⟨rfl, rfl, c1, c2⟩ : Rel2 _ _ _ _), rfl, rfl, rfl, rfl, rfl⟩
        case measure => simp [RowKit.intOf]
    · have hx := HF.out
      rw [if_neg (by omega)] at hx
      clear HF
      have HF := Lib.hid hx
      clear hx
      go_wp2
      all_goals go_ret3
      all_goals exact ⟨FirstPost.yes (n := 2) HF.out, rfl⟩
def Rel4 (x0 x1 x2 x3 : Nat) (c i : Value) : Prop :=
  (i = .int .i64 1 ∧ c = .int .i64 ((x0 : Int) - 240)) ∨ (i = .int .i64 2 ∧ c = .int .i64 (((x0 : Int) - 240) * 64 + x1 - 128) ∧ 128 ≤ x1 ∧ x1 < 192) ∨
  (i = .int .i64 3 ∧ c = .int .i64 ((((x0 : Int) - 240) * 64 + x1 - 128) * 64 + x2 - 128) ∧ 128 ≤ x1 ∧ x1 < 192 ∧ 128 ≤ x2 ∧ x2 < 192) ∨
  (i = .int .i64 4 ∧ c = .int .i64 (((((x0 : Int) - 240) * 64 + x1 - 128) * 64 + x2 - 128) * 64 + x3 - 128) ∧ 128 ≤ x1 ∧ x1 < 192 ∧ 128 ≤ x2 ∧ x2 < 192 ∧ 128 ≤ x3 ∧ x3 < 192)
set_option maxRecDepth 100000 in
set_option maxHeartbeats 2000000 in
theorem first_four (s : ByteArray) (w : World) (hs : s.size ≤ 9223372036854775807) (x0 x1 x2 x3 : UInt8) (h2 : 3 < s.size) (e0 : s[0]'(by omega) = x0) (e1 : s[1]'(by omega) = x1) (e2 : s[2]'(by omega) = x2) (e3 : s[3]'(by omega) = x3)
    (g0 : 240 ≤ x0.toNat) (g1 : x0.toNat < 245) :
    Calls Tryd.prog 86 #[.string s] w fun e w' => FirstPost (firstR s.size x0.toNat x1.toNat x2.toNat x3.toNat) e ∧ w = w' := by
  have k1 := x1.toNat_lt
  have k2 := x2.toNat_lt
  have k3 := x3.toNat_lt
  have hf : firstR s.size x0.toNat x1.toNat x2.toNat x3.toNat = (if x1.toNat < 128 ∨ 192 ≤ x1.toNat ∨ x2.toNat < 128 ∨ 192 ≤ x2.toNat ∨ x3.toNat < 128 ∨ 192 ≤ x3.toNat then none
      else if (x0.toNat - 240) * 262144 + (x1.toNat - 128) * 4096 + (x2.toNat - 128) * 64 + (x3.toNat - 128) < 65536 ∨ 1114111 < (x0.toNat - 240) * 262144 + (x1.toNat - 128) * 4096 + (x2.toNat - 128) * 64 + (x3.toNat - 128) then none else some 4) := by
    unfold firstR
    rw [if_neg (by omega), if_neg (by omega), if_neg (by omega), if_pos ⟨g0, g1⟩]
    by_cases c : x1.toNat < 128 ∨ 192 ≤ x1.toNat ∨ x2.toNat < 128 ∨ 192 ≤ x2.toNat ∨ x3.toNat < 128 ∨ 192 ≤ x3.toNat
    · rw [if_pos c, if_pos (by omega)]
    · rw [if_neg c, if_neg (by omega)]
  obtain ⟨R, hR⟩ : ∃ R, firstR s.size x0.toNat x1.toNat x2.toNat x3.toNat = R := ⟨_, rfl⟩
  rw [hR] at hf ⊢
  clear hR
  have HF := Lib.hid hf
  clear hf
  have z0 : 0 < s.size := by omega
  have z1 : 1 < s.size := by omega
  have z2 : 2 < s.size := by omega
  go_enter Tryd.func86, Tryd.ntmps86
  go_wp2
  go_loop [7, 8] (fun c i => Rel4 x0.toNat x1.toNat x2.toNat x3.toNat c i) (fun _ i => 6 - (RowKit.intOf i).toNat)
  case atStart => exact .inl ⟨rfl, rfl⟩
  case round =>
    rcases hrel with ⟨rfl, rfl⟩ | ⟨rfl, rfl, q1, q2⟩ | ⟨rfl, rfl, q1, q2, q3, q4⟩ | ⟨rfl, rfl, q1, q2, q3, q4, q5, q6⟩
    · by_cases c : x1.toNat < 128 ∨ 192 ≤ x1.toNat
      · have hn : R = none := by rw [HF.out, if_pos (by omega)]
        have HN := Lib.hid hn
        clear hn HF
        rcases c with c | c
        all_goals
          go_wp2
          go_ret3
          exact ⟨FirstPost.no HN.out, rfl⟩
      · have c1 : 128 ≤ x1.toNat := by omega
        have c2 : x1.toNat < 192 := by omega
        clear c
        go_wp2
        go_round
        case rel => exact ⟨_, _, _, _, _, (.inr (.inl ⟨rfl, rfl, c1, c2⟩) : Rel4 _ _ _ _ _ _), rfl, rfl, rfl, rfl, rfl⟩
        case measure => simp [RowKit.intOf]
    · by_cases c : x2.toNat < 128 ∨ 192 ≤ x2.toNat
      · have hn : R = none := by rw [HF.out, if_pos (by omega)]
        have HN := Lib.hid hn
        clear hn HF
        rcases c with c | c
        all_goals
          go_wp2
          go_ret3
          exact ⟨FirstPost.no HN.out, rfl⟩
      · have c1 : 128 ≤ x2.toNat := by omega
        have c2 : x2.toNat < 192 := by omega
        clear c
        go_wp2
        go_round
        case rel => exact ⟨_, _, _, _, _, (.inr (.inr (.inl ⟨rfl, rfl, q1, q2, c1, c2⟩)) : Rel4 _ _ _ _ _ _), rfl, rfl, rfl, rfl, rfl⟩
        case measure => simp [RowKit.intOf]
    · by_cases c : x3.toNat < 128 ∨ 192 ≤ x3.toNat
      · have hn : R = none := by rw [HF.out, if_pos (by omega)]
        have HN := Lib.hid hn
        clear hn HF
        rcases c with c | c
        all_goals
          go_wp2
          go_ret3
          exact ⟨FirstPost.no HN.out, rfl⟩
      · have c1 : 128 ≤ x3.toNat := by omega
        have c2 : x3.toNat < 192 := by omega
        clear c
        go_wp2
        go_round
        case rel => exact ⟨_, _, _, _, _, (.inr (.inr (.inr ⟨rfl, rfl, q1, q2, q3, q4, c1, c2⟩)) : Rel4 _ _ _ _ _ _), rfl, rfl, rfl, rfl, rfl⟩
        case measure => simp [RowKit.intOf]
    · have hx := HF.out
      rw [if_neg (by omega)] at hx
      clear HF
      have HF := Lib.hid hx
      clear hx
      go_wp2
      all_goals go_ret3
      all_goals first
        | exact ⟨FirstPost.no (by rw [HF.out, if_pos (by omega)]), rfl⟩
        | exact ⟨FirstPost.yes (n := 4) (by rw [HF.out, if_neg (by omega)]), rfl⟩
set_option maxRecDepth 100000 in
set_option maxHeartbeats 1000000 in
theorem first_one (s : ByteArray) (w : World) (_hs : s.size ≤ 9223372036854775807) (x0 : UInt8) (h2 : 0 < s.size) (e0 : s[0]'(by omega) = x0) (g1 : x0.toNat < 128) (x1 x2 x3 : Nat) :
    Calls Tryd.prog 86 #[.string s] w fun e w' => FirstPost (firstR s.size x0.toNat x1 x2 x3) e ∧ w = w' := by
  have hf : firstR s.size x0.toNat x1 x2 x3 = some 1 := by unfold firstR; rw [if_pos g1]
  rw [hf]
  clear hf
  go_enter Tryd.func86, Tryd.ntmps86
  go_wp2
  go_ret3
  exact ⟨FirstPost.yes (n := 1) rfl, rfl⟩
set_option maxRecDepth 100000 in
set_option maxHeartbeats 1000000 in
theorem first_none (s : ByteArray) (w : World) (hs : s.size ≤ 9223372036854775807) (x0 : UInt8) (h2 : 0 < s.size) (e0 : s[0]'(by omega) = x0) (x1 x2 x3 : Nat)
    (g : (128 ≤ x0.toNat ∧ x0.toNat < 194) ∨ 245 ≤ x0.toNat ∨ (194 ≤ x0.toNat ∧ x0.toNat < 224 ∧ s.size < 2) ∨ (224 ≤ x0.toNat ∧ x0.toNat < 240 ∧ s.size < 3) ∨ (240 ≤ x0.toNat ∧ x0.toNat < 245 ∧ s.size < 4)) :
    Calls Tryd.prog 86 #[.string s] w fun e w' => FirstPost (firstR s.size x0.toNat x1 x2 x3) e ∧ w = w' := by
  have hf : firstR s.size x0.toNat x1 x2 x3 = none := by
    unfold firstR
    rw [if_neg (by omega)]
    by_cases c1 : 194 ≤ x0.toNat ∧ x0.toNat < 224
    · rw [if_pos c1, if_pos (by omega)]
    rw [if_neg c1]
    by_cases c2 : 224 ≤ x0.toNat ∧ x0.toNat < 240
    · rw [if_pos c2, if_pos (by omega)]
    rw [if_neg c2]
    by_cases c3 : 240 ≤ x0.toNat ∧ x0.toNat < 245
    · rw [if_pos c3, if_pos (by omega)]
    rw [if_neg c3]
  rw [hf]
  clear hf
  have k0 := x0.toNat_lt
  rcases g with ⟨g1, g2⟩ | g1 | ⟨g1, g2, g3⟩ | ⟨g1, g2, g3⟩ | ⟨g1, g2, g3⟩
  all_goals
    go_enter Tryd.func86, Tryd.ntmps86
    go_wp2
    go_ret3
    exact ⟨FirstPost.no rfl, rfl⟩
theorem get_getD (s : ByteArray) (i : Nat) (h : i < s.size) : s[i]'h = s.data.toList.getD i 0 := by
  rw [getD_get!']
  exact (Utf8W.get!_of_lt s i h).symm
/-- WHAT 'first' SAYS, AT EVERY TEXT THAT IS NOT EMPTY. -/
theorem first_any (s : ByteArray) (w : World) (hs : s.size ≤ 9223372036854775807) (h0 : 0 < s.size) :
    Calls Tryd.prog 86 #[.string s] w fun e w' => FirstPost (if bad s.data.toList then none else some (decodeL s.data.toList).2) e ∧ w = w' := by
  have b := fun i => (s.data.toList.getD i 0).toNat_lt
  have hR : (if bad s.data.toList then none else some (decodeL s.data.toList).2) = firstR s.size (s.data.toList.getD 0 0).toNat (s.data.toList.getD 1 0).toNat (s.data.toList.getD 2 0).toNat (s.data.toList.getD 3 0).toNat := by
    rw [firstR_eq _ _ _ _ _ (b 0) (b 1) (b 2) (b 3), size_eq, ← decodeL_N]
    rfl
  rw [hR]
  have k0 := b 0
  by_cases c0 : (s.data.toList.getD 0 0).toNat < 128
  · exact first_one s w hs _ h0 (get_getD s 0 _) c0 _ _ _
  by_cases c1 : 194 ≤ (s.data.toList.getD 0 0).toNat ∧ (s.data.toList.getD 0 0).toNat < 224 ∧ 1 < s.size
  · exact first_two s w hs _ _ c1.2.2 (get_getD s 0 _) (get_getD s 1 _) c1.1 c1.2.1 _ _
  by_cases c2 : 224 ≤ (s.data.toList.getD 0 0).toNat ∧ (s.data.toList.getD 0 0).toNat < 240 ∧ 2 < s.size
  · exact first_three s w hs _ _ _ c2.2.2 (get_getD s 0 _) (get_getD s 1 _) (get_getD s 2 _) c2.1 c2.2.1 _
  by_cases c3 : 240 ≤ (s.data.toList.getD 0 0).toNat ∧ (s.data.toList.getD 0 0).toNat < 245 ∧ 3 < s.size
  · exact first_four s w hs _ _ _ _ c3.2.2 (get_getD s 0 _) (get_getD s 1 _) (get_getD s 2 _) (get_getD s 3 _) c3.1 c3.2.1
  exact first_none s w hs _ h0 (get_getD s 0 _) _ _ _ (by omega)
end Go.Proofs.YtphapjbfaomblaaDoor
/- The walks of joining pieces, and of holding lists of texts and of numbers against one another. -/
namespace Go.Proofs.YtphapjbfaomblaaDoor
open Go.RowKit
theorem ret_bool' {a b : Bool} (h : a = b) : Ending.returned (.bool a) = Ending.returned (.bool b) := by rw [h]
theorem ret_str {a b : List UInt8} (h : a = b) : Ending.returned (.string (ofL a)) = Ending.returned (str b) := by rw [h]; rfl
theorem flatten_take_succ (ls : List (List UInt8)) (k : Nat) (h : k < ls.length) : (ls.take (k + 1)).flatten = (ls.take k).flatten ++ ls[k] := by
  rw [List.take_succ_eq_append_getElem h, List.flatten_append]
  simp
theorem flatten_take_le (ls : List (List UInt8)) (k : Nat) : (ls.take k).flatten.length ≤ ls.flatten.length := by
  have : ls.flatten = (ls.take k).flatten ++ (ls.drop k).flatten := by rw [← List.flatten_append, List.take_append_drop]
  rw [this, List.length_append]; omega
def num (z : Int) : Value := .int .i64 z
end Go.Proofs.YtphapjbfaomblaaDoor
/- The walk of the document's pieces of a text. -/
namespace Go.Proofs.YtphapjbfaomblaaDoor
open Go.RowKit
theorem infoStr : (Tryd.prog.info? 9).map (fun i => (i.zero, i.size, i.bytes)) = some (some (.string ⟨#[]⟩), 1, 16) := by kernel_rfl
def strLen : Value → Nat | .string b => b.size | _ => 0
/-- what the pieces of a text come to -/
def SplitPost (l : List UInt8) (w : World) (e : Ending) (w' : World) : Prop :=
  (∃ ps v, AllP ps ∧ l = ps.flatten ∧ e = .returned (.tuple #[v, .int .i64 0]) ∧ w'.ownsRow w.heap.size 9 1 v ps.length (ps.map str) ∧ Below w.heap.size w w') ∨
  (Lib.validD l = false ∧ e = .returned (.tuple #[.slice none 0 0, .int .i64 60]) ∧ Below w.heap.size w w')
def SplitRel (l : List UInt8) (w : World) (s v : Value) (wr : World) (m : Nat) : Prop :=
  ∃ ps rest, AllP ps ∧ l = ps.flatten ++ rest ∧ Lib.validD rest = Lib.validD l ∧ s = str rest ∧ m = rest.length ∧ wr.ownsRow w.heap.size 9 1 v ps.length (ps.map str) ∧ Below w.heap.size w wr
theorem SplitRel.stop {l : List UInt8} {w wr : World} {v : Value} {ps : List (List UInt8)} (h1 : AllP ps) (h2 : l = ps.flatten ++ []) (h3 : wr.ownsRow w.heap.size 9 1 v ps.length (ps.map str)) (h4 : Below w.heap.size w wr) :
    SplitPost l w (.returned (.tuple #[v, .int .i64 0])) wr := .inl ⟨ps, v, h1, by simpa using h2, rfl, h3, h4⟩
theorem take_head {rest : List UInt8} : (ofL rest).extract 0 (Lib.decodeL rest).2 = ofL (rest.take (Lib.decodeL rest).2) := by rw [ofL_extract]; simp
theorem drop_head {rest : List UInt8} (n : Nat) : (ofL rest).extract n (ofL rest).size = ofL (rest.drop n) := by
  rw [ofL_extract, ofL_size, List.take_of_length_le]
  simp
theorem flatten_snoc (ps : List (List UInt8)) (p : List UInt8) : (ps ++ [p]).flatten = ps.flatten ++ p := by simp
set_option maxRecDepth 100000 in
set_option maxHeartbeats 400000 in
theorem rsplit_any (l : List UInt8) (w : World) (hl : l.length ≤ 1000000000) :
    Calls Tryd.prog 71 #[.string (ofL l)] w fun e w' => SplitPost l w e w' := by
  obtain ⟨i0, hi, hz0, hz1, hz2⟩ := info_parts infoStr
  go_enter Tryd.func71, Tryd.ntmps71
  go_wp2
  go_loopw [0, 4] (fun s v wr => ∃ m, SplitRel l w s v wr m) (fun s _ _ => strLen s)
  case atStart => exact ⟨l.length, [], l, AllP.nil, by simp, rfl, rfl, rfl, by simpa using World.ownsRow_nil w _ _ _, Below.refl _ _⟩
  case round =>
    obtain ⟨m, ps, rest, hp, hs, hv, rfl, hm, hown, hbw⟩ := hrel
    have hsz : (ofL rest).size = rest.length := ofL_size rest
    have hle : rest.length ≤ 1000000000 := by rw [hs, List.length_append] at hl; omega
    have HSZ := Lib.hid hsz
    have HS := Lib.hid hs
    have HV := Lib.hid hv
    clear hsz hs hv hm
    have hpl := length_le_flatten ps hp
    have hfl : ps.flatten.length ≤ 1000000000 := by have := HS.out; rw [this, List.length_append] at hl; omega
    unfold str
    by_cases hne : rest = []
    · subst hne
      go_wp2
      go_ret2
      exact SplitRel.stop hp HS.out hown hbw
    · have hpos : 0 < (ofL rest).size := by have := HSZ.out; have := List.length_pos_iff.2 hne; omega
      have hmx : (ofL rest).size ≤ 9223372036854775807 := by have := HSZ.out; omega
      have cF := first_any (ofL rest) wr hmx hpos
      rw [ofL_toList] at cF
      by_cases hb : bad rest
      · rw [if_pos hb] at cF
        have CF := Lib.hid cF
        have hbad : Lib.validD l = false := by
          rw [← HV.out, Lib.validD_step rest hne]
          exact if_pos hb
        have HB := Lib.hid hbad
        clear cF hbad hb
        go_wp2_with (go_at_call 86; refine (CF.out).mono ?_)
        rintro e w' ⟨(⟨_, rfl⟩ | ⟨n, hn, _⟩), rfl⟩
        · go_wp2
          go_ret2
          exact .inr ⟨HB.out, rfl, hbw⟩
        · cases hn
      · rw [if_neg hb] at cF
        have CF := Lib.hid cF
        have hst : Lib.validD (rest.drop (Lib.decodeL rest).2) = Lib.validD l := by
          rw [← HV.out, Lib.validD_step rest hne, if_neg (show ¬ ((Lib.decodeL rest).1 = 65533 ∧ (Lib.decodeL rest).2 = 1) from hb)]
        have hpc := isP_head hne hb
        have hd := Lib.decodeL_le rest hne
        have hw := Lib.decodeL_width rest
        have hx1 := take_head (rest := rest)
        have hx2 := drop_head (rest := rest) (Lib.decodeL rest).2
        have htd := List.take_append_drop (Lib.decodeL rest).2 rest
        have hdl : (rest.drop (Lib.decodeL rest).2).length + (Lib.decodeL rest).2 = rest.length := by rw [List.length_drop]; omega
        obtain ⟨q, hq⟩ : ∃ q, rest.take (Lib.decodeL rest).2 = q := ⟨_, rfl⟩
        obtain ⟨r, hr⟩ : ∃ r, rest.drop (Lib.decodeL rest).2 = r := ⟨_, rfl⟩
        obtain ⟨d, hdd⟩ : ∃ d, (Lib.decodeL rest).2 = d := ⟨_, rfl⟩
        rw [hq] at hpc hx1 htd
        rw [hr] at hst hx2 htd hdl
        rw [hdd] at hd hw hx1 hx2 hdl CF
        have hds : d ≤ (ofL rest).size := by have := HSZ.out; omega
        have HST := Lib.hid hst
        have HTD := Lib.hid htd
        have HDL := Lib.hid hdl
        have hdp : (0 : Int) ≤ d := by omega
        clear hq hr hdd cF hb hst htd hdl
        go_wp2_with (go_at_call 86; refine (CF.out).mono ?_)
        rintro e w' ⟨(⟨hn, _⟩ | ⟨n, hn, c, rfl⟩), rfl⟩
        · cases hn
        · obtain rfl : d = n := Option.some.inj hn
          clear hn
          go_wp2_with (at_builtin; refine wpList_append_own _ rfl _ _ 92 rfl w.heap.size 9 i0 (.string ⟨#[]⟩) 1 16 Tryd.underlying92 hi hz0 hz1 hz2 rfl (by decide) _ _ _ rfl (hown.alloc _) ⟨wr.heap.size, 0, none⟩ 1 1 [str q] rfl rfl ?c1 ?c2 ?c3 ?c4 ?c5 ?_)
          case c1 => exact cell_one_new _ _ _
          case c2 => intro u hu; rcases List.mem_singleton.1 hu with rfl; rfl
          case c3 => simp only [maxLen]; omega
          case c4 => omega
          case c5 => have := hbw.size; simp; omega
          intro v' w1 hown' hgrow _
          have hbw1 : Below w.heap.size w w1 := (hbw.alloc hbw.size _).grown hgrow (by have := hbw.size; simp; omega) (fun k hk => (hown.lt k hk).1)
          clear hown hgrow hbw
          go_wp2
          go_roundw
          case rel => exact ⟨_, ps ++ [q], r, hp.append (AllP.cons hpc AllP.nil), by rw [HS.out, flatten_snoc, List.append_assoc, HTD.out], HST.out, rfl, rfl, by rw [List.length_append, List.map_append]; exact hown', hbw1⟩
          case measure => simp only [strLen, ofL_size]; have := HDL.out; omega
end Go.Proofs.YtphapjbfaomblaaDoor
/-
  DERIVED: THE SHELF's CONTRACTS AT THIS DUMP, IN PLAIN WORDS (tools/lay-plain.mjs out of 'YtphapjbfaomblaaDoorShelf.lean', which tools/lay-shelf.mjs wrote): THE SAME DECLARATIONS UNDER THE SAME NAMES: 'import', 'namespace', 'open', 'def', 'theorem' AND NOTHING ELSE: no command of the shelf's: FOR A HAND-IN. Each laying: the table of numbers ('.._ren') and one theorem, a field a fact of the dump's own or the kernel's comparison; each contract: ONE APPLICATION.
-/
namespace Go.Proofs
open Go.Shelf
def Tryd.laysSlF06_f74_ren : Go.Shelf.Ren := ⟨fun | 6 => 74 | 15 => 89 | 14 => 88 | 28 => 107 | 29 => 108 | 20 => 99 | 21 => 100 | 22 => 101 | 23 => 102 | 24 => 103 | 25 => 104 | 26 => 105 | 27 => 106 | 46 => 113 | 47 => 114 | 48 => 115 | 49 => 116 | 50 => 117 | 57 => 121 | n => n, fun | 22 => 75 | 24 => 84 | 25 => 135 | 3 => 3 | 39 => 151 | 0 => 0 | 53 => 174 | 55 => 176 | 4 => 4 | 46 => 167 | 45 => 166 | 50 => 171 | 5 => 5 | 9 => 9 | 66 => 179 | 70 => 183 | 76 => 187 | 77 => 188 | n => n, fun | n => n⟩
theorem Tryd.laysSlF06_f74 : Go.Proofs.SlLaysF0.n6 Tryd.prog Tryd.laysSlF06_f74_ren := {
  mixed := by kernel_rfl
  f6 := ⟨Tryd.f74.name, by decide, Tryd.func74.trans (congrArg some (by kernel_rfl))⟩
  f14 := ⟨Tryd.f88.name, by decide, Tryd.func88.trans (congrArg some (by kernel_rfl))⟩
  f15 := Tryd.func89.trans (congrArg some (by kernel_rfl))
  f20 := ⟨Tryd.f99.name, by decide, Tryd.func99.trans (congrArg some (by kernel_rfl))⟩
  f21 := ⟨Tryd.f100.name, by decide, Tryd.func100.trans (congrArg some (by kernel_rfl))⟩
  f22 := ⟨Tryd.f101.name, by decide, Tryd.func101.trans (congrArg some (by kernel_rfl))⟩
  f23 := ⟨Tryd.f102.name, by decide, Tryd.func102.trans (congrArg some (by kernel_rfl))⟩
  f24 := ⟨Tryd.f103.name, by decide, Tryd.func103.trans (congrArg some (by kernel_rfl))⟩
  f25 := ⟨Tryd.f104.name, by decide, Tryd.func104.trans (congrArg some (by kernel_rfl))⟩
  f26 := ⟨Tryd.f105.name, by decide, Tryd.func105.trans (congrArg some (by kernel_rfl))⟩
  f27 := ⟨Tryd.f106.name, by decide, Tryd.func106.trans (congrArg some (by kernel_rfl))⟩
  f28 := Tryd.func107.trans (congrArg some (by kernel_rfl))
  f29 := Tryd.func108.trans (congrArg some (by kernel_rfl))
  f46 := ⟨Tryd.f113.name, by decide, Tryd.func113.trans (congrArg some (by kernel_rfl))⟩
  f47 := Tryd.func114.trans (congrArg some (by kernel_rfl))
  f48 := Tryd.func115.trans (congrArg some (by kernel_rfl))
  f49 := ⟨Tryd.f116.name, by decide, Tryd.func116.trans (congrArg some (by kernel_rfl))⟩
  f50 := ⟨Tryd.f117.name, by decide, Tryd.func117.trans (congrArg some (by kernel_rfl))⟩
  f57 := ⟨Tryd.f121.name, by decide, Tryd.func121.trans (congrArg some (by kernel_rfl))⟩
  t0 := Tryd.underlying0
  a0 := Tryd.isAgg0
  z0 := Tryd.sizeOf0
  v0 := Tryd.zeroValue0
  t3 := Tryd.underlying3
  a3 := Tryd.isAgg3
  z3 := Tryd.sizeOf3
  v3 := Tryd.zeroValue3
  t4 := Tryd.underlying4
  a4 := Tryd.isAgg4
  z4 := Tryd.sizeOf4
  v4 := Tryd.zeroValue4
  t5 := Tryd.underlying5
  a5 := Tryd.isAgg5
  z5 := Tryd.sizeOf5
  v5 := Tryd.zeroValue5
  t9 := Tryd.underlying9
  a9 := Tryd.isAgg9
  z9 := Tryd.sizeOf9
  v9 := Tryd.zeroValue9
  t22 := Tryd.underlying75
  a22 := Tryd.isAgg75
  z22 := Tryd.sizeOf75
  v22 := Tryd.zeroValue75
  t25 := Tryd.underlying135
  a25 := Tryd.isAgg135
  z25 := Tryd.sizeOf135
  v25 := Tryd.zeroValue135
  t39 := Tryd.underlying151
  a39 := Tryd.isAgg151
  z39 := Tryd.sizeOf151
  v39 := Tryd.zeroValue151
  t45 := Tryd.underlying166
  a45 := Tryd.isAgg166
  z45 := Tryd.sizeOf166
  v45 := Tryd.zeroValue166
  t46 := Tryd.underlying167
  a46 := Tryd.isAgg167
  z46 := Tryd.sizeOf167
  v46 := Tryd.zeroValue167
  t50 := Tryd.underlying171
  a50 := Tryd.isAgg171
  z50 := Tryd.sizeOf171
  v50 := Tryd.zeroValue171
  t53 := Tryd.underlying174
  a53 := Tryd.isAgg174
  z53 := Tryd.sizeOf174
  v53 := Tryd.zeroValue174
  t55 := Tryd.underlying176
  a55 := Tryd.isAgg176
  z55 := Tryd.sizeOf176
  v55 := Tryd.zeroValue176
  t66 := Tryd.underlying179
  a66 := Tryd.isAgg179
  z66 := Tryd.sizeOf179
  v66 := Tryd.zeroValue179
  t70 := Tryd.underlying183
  a70 := Tryd.isAgg183
  z70 := Tryd.sizeOf183
  v70 := Tryd.zeroValue183
  t76 := Tryd.underlying187
  a76 := Tryd.isAgg187
  z76 := Tryd.sizeOf187
  v76 := Tryd.zeroValue187
  t77 := Tryd.underlying188
  a77 := Tryd.isAgg188
  z77 := Tryd.sizeOf188
  v77 := Tryd.zeroValue188 }
def Tryd.lays169_ren : Go.Shelf.Ren := ⟨fun | 169 => 54 | n => n, fun | 70 => 103 | 9 => 9 | 0 => 0 | 72 => 105 | 37 => 48 | 127 => 133 | 3 => 3 | 5 => 5 | n => n, fun | n => n⟩
theorem Tryd.lays169 : Go.Proofs.Lays.n169 Tryd.prog Tryd.lays169_ren := {
  mixed := by kernel_rfl
  f169 := Tryd.func54.trans (congrArg some (by kernel_rfl))
  t0 := Tryd.underlying0
  a0 := Tryd.isAgg0
  z0 := Tryd.sizeOf0
  v0 := Tryd.zeroValue0
  t3 := Tryd.underlying3
  a3 := Tryd.isAgg3
  z3 := Tryd.sizeOf3
  v3 := Tryd.zeroValue3
  t9 := Tryd.underlying9
  a9 := Tryd.isAgg9
  z9 := Tryd.sizeOf9
  v9 := Tryd.zeroValue9
  t37 := Tryd.underlying48
  a37 := Tryd.isAgg48
  z37 := Tryd.sizeOf48
  v37 := Tryd.zeroValue48
  t70 := Tryd.underlying103
  a70 := Tryd.isAgg103
  z70 := Tryd.sizeOf103
  v70 := Tryd.zeroValue103
  t72 := Tryd.underlying105
  a72 := Tryd.isAgg105
  z72 := Tryd.sizeOf105
  v72 := Tryd.zeroValue105
  t127 := Tryd.underlying133
  a127 := Tryd.isAgg133
  z127 := Tryd.sizeOf133
  v127 := Tryd.zeroValue133 }
theorem Tryd.Builder_Extra_169 : Builder.Extra Tryd.prog Tryd.lays169_ren := {
  sizeBuilder := by kernel_rfl
  liesBuilder := by kernel_rfl
  t5 := Tryd.underlying5
  a5 := Tryd.isAgg5
  z5 := Tryd.sizeOf5
  v5 := Tryd.zeroValue5
  infoByte := by kernel_rfl
  cellsByte := by kernel_rfl
  sizeByte := by kernel_rfl
  neB5 := by decide }
open Go.RowKit in
theorem Tryd.Builder_String_any_k (B b : Nat) (l : List UInt8) (w : World) (h : Lib.IsBuilderF 105 5 B b (Lib.byteCells l) w) (hBw : B ≤ w.heap.size) :
    Calls Tryd.prog 54 #[.pointer (some ⟨b, 0, none⟩)] w fun e w' => e = .returned (.string ⟨l.toArray⟩) ∧ (Lib.IsBuilderF 105 5 B b (Lib.byteCells l) w' ∧ Below B w w' ∧ Lib.OthersKept 5 (some b) w w') := Any.Builder_String_any_k Tryd.lays169 Tryd.Builder_Extra_169 B b l w h hBw
def Tryd.lays196_ren : Go.Shelf.Ren := ⟨fun | 196 => 76 | 259 => 90 | n => n, fun | 9 => 9 | 4 => 4 | 3 => 3 | 5 => 5 | 12 => 12 | 119 => 153 | 0 => 0 | 46 => 151 | 139 => 156 | 138 => 155 | 53 => 176 | n => n, fun | 3 => 0 | 4 => 1 | n => n⟩
theorem Tryd.lays196 : Go.Proofs.Lays.n196 Tryd.prog Tryd.lays196_ren := {
  mixed := by kernel_rfl
  f196 := Tryd.func76.trans (congrArg some (by kernel_rfl))
  f259 := Tryd.func90.trans (congrArg some (by kernel_rfl))
  t0 := Tryd.underlying0
  a0 := Tryd.isAgg0
  z0 := Tryd.sizeOf0
  v0 := Tryd.zeroValue0
  t3 := Tryd.underlying3
  a3 := Tryd.isAgg3
  z3 := Tryd.sizeOf3
  v3 := Tryd.zeroValue3
  t4 := Tryd.underlying4
  a4 := Tryd.isAgg4
  z4 := Tryd.sizeOf4
  v4 := Tryd.zeroValue4
  t5 := Tryd.underlying5
  a5 := Tryd.isAgg5
  z5 := Tryd.sizeOf5
  v5 := Tryd.zeroValue5
  t9 := Tryd.underlying9
  a9 := Tryd.isAgg9
  z9 := Tryd.sizeOf9
  v9 := Tryd.zeroValue9
  t12 := Tryd.underlying12
  a12 := Tryd.isAgg12
  z12 := Tryd.sizeOf12
  v12 := Tryd.zeroValue12
  t46 := Tryd.underlying151
  a46 := Tryd.isAgg151
  z46 := Tryd.sizeOf151
  v46 := Tryd.zeroValue151
  t53 := Tryd.underlying176
  a53 := Tryd.isAgg176
  z53 := Tryd.sizeOf176
  v53 := Tryd.zeroValue176
  t119 := Tryd.underlying153
  a119 := Tryd.isAgg153
  z119 := Tryd.sizeOf153
  t138 := Tryd.underlying155
  a138 := Tryd.isAgg155
  z138 := Tryd.sizeOf155
  v138 := Tryd.zeroValue155
  t139 := Tryd.underlying156
  a139 := Tryd.isAgg156
  z139 := Tryd.sizeOf156
  v139 := Tryd.zeroValue156
  g3 := by kernel_rfl
  g4 := by kernel_rfl }
open Go.RowKit in
theorem Tryd.utf8_ValidString (s : ByteArray) (w : World) (hs : s.size ≤ 9223372036854775807) (hT : Lib.Utf8Tabs (Tryd.lays196_ren.g 3) (Tryd.lays196_ren.g 4) w) :
    Calls Tryd.prog 76 #[.string s] w fun e w' => e = .returned (.bool (Lib.validD s.data.toList)) ∧ Below w.heap.size w w' := Any.utf8_ValidString Tryd.lays196 s w hs hT
end Go.Proofs
/- A piece is what its code point encodes to. -/
namespace Go.Proofs.YtphapjbfaomblaaDoor
open Go Go.Lib
theorem bytes_eq {a b : List UInt8} (h : a.toArray = b.toArray) : ofL a = ofL b := by rw [ofL, ofL, h]
theorem byte_of (n : Nat) (z : Int) (h : z = n) : UInt8.ofNat n = z.toNat.toUInt8 := by subst h; rfl
theorem encode_ofL (r : Nat) (h : r ≤ 1114111) (hs : ¬ (55296 ≤ r ∧ r ≤ 57343)) : Utf8.encode (r : Int) = ofL (encodeRune (r : Int)) := by
  have hv : Utf8.valid (r : Int) = true := by
    unfold Utf8.valid
    by_cases h1 : r < 55296
    · simp; omega
    · simp; omega
  unfold Utf8.encode
  simp only [hv, if_true, Int.toNat_natCast]
  unfold encodeRune
  by_cases h1 : r < 128
  · rw [if_pos h1, encodeRuneZ_one (by omega) (by omega)]
    rfl
  rw [if_neg h1]
  by_cases h2 : r < 2048
  · rw [if_pos h2, encodeRuneZ_two (by omega) (by omega)]
    simp only [List.map_cons, List.map_nil]
    rw [byte_of _ (192 + (r : Int) / 64) (by omega), byte_of _ (128 + (r : Int) % 64) (by omega)]
    rfl
  rw [if_neg h2]
  by_cases h3 : r < 65536
  · rw [if_pos h3, encodeRuneZ_three (by omega)]
    simp only [List.map_cons, List.map_nil]
    rw [byte_of _ (224 + (r : Int) / 4096) (by omega), byte_of _ (128 + (r : Int) / 64 % 64) (by omega), byte_of _ (128 + (r : Int) % 64) (by omega)]
    rfl
  rw [if_neg h3, encodeRuneZ_four (by omega) (by omega)]
  simp only [List.map_cons, List.map_nil]
  rw [byte_of _ (240 + (r : Int) / 262144) (by omega), byte_of _ (128 + (r : Int) / 4096 % 64) (by omega), byte_of _ (128 + (r : Int) / 64 % 64) (by omega), byte_of _ (128 + (r : Int) % 64) (by omega)]
  rfl
/-- the code point of a piece: below 128 just if the piece is that byte; never a half -/
theorem piece_rune {p : Bs} (h : isP p) : (decodeL p).1 ≤ 1114111 ∧ ¬ (55296 ≤ (decodeL p).1 ∧ (decodeL p).1 ≤ 57343) ∧
    (((decodeL p).1 < 128 ∧ ∃ b, p = [b] ∧ b.toNat = (decodeL p).1) ∨ (128 ≤ (decodeL p).1 ∧ 2 ≤ p.length)) := by
  have hl := h.pos
  have hv := h.2.1
  have hw := h.2.2
  unfold bad at hv
  rw [decodeL_N] at hv hw ⊢
  rcases decodeN_shape p.length (p.getD 0 0).toNat (p.getD 1 0).toNat (p.getD 2 0).toNat (p.getD 3 0).toNat with ⟨c, e⟩ | ⟨e1, e2, e3, ev, e⟩ | ⟨e1, e2, e3, e4, ev, es, e⟩ | ⟨e1, e2, e3, e4, e5, ev, ew, e⟩ | e
  · rw [e] at hw ⊢
    dsimp only at hw ⊢
    refine ⟨by omega, by omega, .inl ⟨c, ?_⟩⟩
    match p, hw with
    | [b], _ => exact ⟨b, rfl, rfl⟩
  · rw [e] at hw ⊢
    dsimp only at hw ⊢
    exact ⟨by omega, by omega, .inr ⟨by omega, by omega⟩⟩
  · rw [e] at hw ⊢
    dsimp only at hw ⊢
    exact ⟨by omega, by omega, .inr ⟨by omega, by omega⟩⟩
  · rw [e] at hw ⊢
    dsimp only at hw ⊢
    exact ⟨by omega, by omega, .inr ⟨by omega, by omega⟩⟩
  · rw [e] at hv
    exact absurd ⟨rfl, rfl⟩ hv
theorem encode_piece {p : Bs} (h : isP p) : Utf8.encode (((decodeL p).1 : Nat) : Int) = ofL p := by
  obtain ⟨h1, h2, _⟩ := piece_rune h
  rw [encode_ofL _ h1 h2, encode_decode p h.1 h.2.1, h.2.2, List.take_length]
end Go.Proofs.YtphapjbfaomblaaDoor
