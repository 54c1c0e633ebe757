/- The walk of the document's look at a text's first code point. -/
import Derived.Test.YtphapjbfaomblaaDoorChecked
import Derived.Test.YtphapjbfaomblaaDoorM1
import Derived.WalkKit
import Derived.WalkSpells
import Derived.WalkLawsBesides
import Derived.Lib.Hide
import Derived.Shelf.Unicode.WordAny
namespace Go.Proofs.YtphapjbfaomblaaDoor
open Go.RowKit Go.Lib
/-- how many bytes the first code point has, as the document's code says -/
def firstR (m b0 b1 b2 b3 : Nat) : Option Nat :=
  if b0 < 128 then some 1
  else if 194 ≤ b0 ∧ b0 < 224 then (if m < 2 ∨ b1 < 128 ∨ 192 ≤ b1 then none else some 2)
  else if 224 ≤ b0 ∧ b0 < 240 then (if m < 3 ∨ b1 < 128 ∨ 192 ≤ b1 ∨ b2 < 128 ∨ 192 ≤ b2 then none
    else if (b0 - 224) * 4096 + (b1 - 128) * 64 + (b2 - 128) < 2048 ∨ (55296 ≤ (b0 - 224) * 4096 + (b1 - 128) * 64 + (b2 - 128) ∧ (b0 - 224) * 4096 + (b1 - 128) * 64 + (b2 - 128) < 57344) then none else some 3)
  else if 240 ≤ b0 ∧ b0 < 245 then (if m < 4 ∨ b1 < 128 ∨ 192 ≤ b1 ∨ b2 < 128 ∨ 192 ≤ b2 ∨ b3 < 128 ∨ 192 ≤ b3 then none
    else if (b0 - 240) * 262144 + (b1 - 128) * 4096 + (b2 - 128) * 64 + (b3 - 128) < 65536 ∨ 1114111 < (b0 - 240) * 262144 + (b1 - 128) * 4096 + (b2 - 128) * 64 + (b3 - 128) then none else some 4)
  else none
theorem firstR_eq (m b0 b1 b2 b3 : Nat) (h0 : b0 < 256) (h1 : b1 < 256) (h2 : b2 < 256) (h3 : b3 < 256) :
    firstR m b0 b1 b2 b3 = if (decodeN m b0 b1 b2 b3).1 = 65533 ∧ (decodeN m b0 b1 b2 b3).2 = 1 then none else some (decodeN m b0 b1 b2 b3).2 := by
  unfold firstR
  by_cases c0 : b0 < 128
  · have e : decodeN m b0 b1 b2 b3 = (b0, 1) := by unfold decodeN; rw [if_pos c0]
    rw [if_pos c0, e]; dsimp only; rw [if_neg (by omega)]
  rw [if_neg c0]
  have bad1 : decodeN m b0 b1 b2 b3 = (65533, 1) → (none : Option Nat) = if (decodeN m b0 b1 b2 b3).1 = 65533 ∧ (decodeN m b0 b1 b2 b3).2 = 1 then none else some (decodeN m b0 b1 b2 b3).2 := by
    intro e; rw [e, if_pos ⟨rfl, rfl⟩]
  have good : ∀ c n, decodeN m b0 b1 b2 b3 = (c, n) → n ≠ 1 → some n = if (decodeN m b0 b1 b2 b3).1 = 65533 ∧ (decodeN m b0 b1 b2 b3).2 = 1 then none else some (decodeN m b0 b1 b2 b3).2 := by
    intro c n e hn; rw [e, if_neg (by intro h; exact hn h.2)]
  have sh := decodeN_shape m b0 b1 b2 b3
  by_cases c1 : 194 ≤ b0 ∧ b0 < 224
  · rw [if_pos c1]
    by_cases d1 : m < 2 ∨ b1 < 128 ∨ 192 ≤ b1
    · rw [if_pos d1]
      refine bad1 ?_
      rcases sh with ⟨c, e⟩ | ⟨e1, e2, e3, ev, e⟩ | ⟨e1, e2, e3, e4, ev, es, e⟩ | ⟨e1, e2, e3, e4, e5, ev, ew, e⟩ | e
      all_goals first | exact e | (exfalso; omega)
    · rw [if_neg d1]
      refine good (b0 % 32 * 64 + b1 % 64) 2 ?_ (by omega)
      unfold decodeN
      rw [if_neg c0, if_pos (by omega), if_pos (by omega)]
  rw [if_neg c1]
  by_cases c2 : 224 ≤ b0 ∧ b0 < 240
  · rw [if_pos c2]
    by_cases d1 : m < 3 ∨ b1 < 128 ∨ 192 ≤ b1 ∨ b2 < 128 ∨ 192 ≤ b2
    · rw [if_pos d1]
      refine bad1 ?_
      rcases sh with ⟨c, e⟩ | ⟨e1, e2, e3, ev, e⟩ | ⟨e1, e2, e3, e4, ev, es, e⟩ | ⟨e1, e2, e3, e4, e5, ev, ew, e⟩ | e
      all_goals first | exact e | (exfalso; omega)
    · rw [if_neg d1]
      by_cases d2 : (b0 - 224) * 4096 + (b1 - 128) * 64 + (b2 - 128) < 2048 ∨ (55296 ≤ (b0 - 224) * 4096 + (b1 - 128) * 64 + (b2 - 128) ∧ (b0 - 224) * 4096 + (b1 - 128) * 64 + (b2 - 128) < 57344)
      · rw [if_pos d2]
        refine bad1 ?_
        rcases sh with ⟨c, e⟩ | ⟨e1, e2, e3, ev, e⟩ | ⟨e1, e2, e3, e4, ev, es, e⟩ | ⟨e1, e2, e3, e4, e5, ev, ew, e⟩ | e
        all_goals first | exact e | (exfalso; omega)
      · rw [if_neg d2]
        refine good (b0 % 16 * 4096 + b1 % 64 * 64 + b2 % 64) 3 ?_ (by omega)
        unfold decodeN
        rw [if_neg c0, if_neg (by omega), if_pos (by omega), if_pos (by omega)]
  rw [if_neg c2]
  by_cases c3 : 240 ≤ b0 ∧ b0 < 245
  · rw [if_pos c3]
    by_cases d1 : m < 4 ∨ b1 < 128 ∨ 192 ≤ b1 ∨ b2 < 128 ∨ 192 ≤ b2 ∨ b3 < 128 ∨ 192 ≤ b3
    · rw [if_pos d1]
      refine bad1 ?_
      rcases sh with ⟨c, e⟩ | ⟨e1, e2, e3, ev, e⟩ | ⟨e1, e2, e3, e4, ev, es, e⟩ | ⟨e1, e2, e3, e4, e5, ev, ew, e⟩ | e
      all_goals first | exact e | (exfalso; omega)
    · rw [if_neg d1]
      by_cases d2 : (b0 - 240) * 262144 + (b1 - 128) * 4096 + (b2 - 128) * 64 + (b3 - 128) < 65536 ∨ 1114111 < (b0 - 240) * 262144 + (b1 - 128) * 4096 + (b2 - 128) * 64 + (b3 - 128)
      · rw [if_pos d2]
        refine bad1 ?_
        rcases sh with ⟨c, e⟩ | ⟨e1, e2, e3, ev, e⟩ | ⟨e1, e2, e3, e4, ev, es, e⟩ | ⟨e1, e2, e3, e4, e5, ev, ew, e⟩ | e
        all_goals first | exact e | (exfalso; omega)
      · rw [if_neg d2]
        refine good (b0 % 8 * 262144 + b1 % 64 * 4096 + b2 % 64 * 64 + b3 % 64) 4 ?_ (by omega)
        unfold decodeN
        rw [if_neg c0, if_neg (by omega), if_neg (by omega), if_pos (by omega), if_pos (by omega)]
  rw [if_neg c3]
  refine bad1 ?_
  rcases sh with ⟨c, e⟩ | ⟨e1, e2, e3, ev, e⟩ | ⟨e1, e2, e3, e4, ev, es, e⟩ | ⟨e1, e2, e3, e4, e5, ev, ew, e⟩ | e
  all_goals first | exact e | (exfalso; omega)

def FirstPost (r : Option Nat) (e : Ending) : Prop := (r = none ∧ e = .returned (.tuple #[.int .i64 0, .int .i64 0, .bool false])) ∨ (∃ n : Nat, r = some n ∧ ∃ c, e = .returned (.tuple #[.int .i64 c, .int .i64 n, .bool true]))
theorem FirstPost.no {r : Option Nat} (h : r = none) : FirstPost r (.returned (.tuple #[.int .i64 0, .int .i64 0, .bool false])) := .inl ⟨h, rfl⟩
theorem FirstPost.yes {r : Option Nat} {n : Nat} {c : Int} (h : r = some n) : FirstPost r (.returned (.tuple #[.int .i64 c, .int .i64 n, .bool true])) := .inr ⟨n, h, c, rfl⟩
def Rel3 (x0 x1 x2 : Nat) (c i : Value) : Prop :=
  (i = .int .i64 1 ∧ c = .int .i64 ((x0 : Int) - 224)) ∨ (i = .int .i64 2 ∧ c = .int .i64 (((x0 : Int) - 224) * 64 + x1 - 128) ∧ 128 ≤ x1 ∧ x1 < 192) ∨
  (i = .int .i64 3 ∧ c = .int .i64 ((((x0 : Int) - 224) * 64 + x1 - 128) * 64 + x2 - 128) ∧ 128 ≤ x1 ∧ x1 < 192 ∧ 128 ≤ x2 ∧ x2 < 192)
set_option maxRecDepth 100000 in
set_option maxHeartbeats 1000000 in
theorem first_three (s : ByteArray) (w : World) (hs : s.size ≤ 9223372036854775807) (x0 x1 x2 : UInt8) (h2 : 2 < s.size) (e0 : s[0]'(by omega) = x0) (e1 : s[1]'(by omega) = x1) (e2 : s[2]'(by omega) = x2)
    (g0 : 224 ≤ x0.toNat) (g1 : x0.toNat < 240) (x3 : Nat) :
    Calls Tryd.prog 86 #[.string s] w fun e w' => FirstPost (firstR s.size x0.toNat x1.toNat x2.toNat x3) e ∧ w = w' := by
  have k1 := x1.toNat_lt
  have k2 := x2.toNat_lt
  have hf : firstR s.size x0.toNat x1.toNat x2.toNat x3 = (if x1.toNat < 128 ∨ 192 ≤ x1.toNat ∨ x2.toNat < 128 ∨ 192 ≤ x2.toNat then none
      else if (x0.toNat - 224) * 4096 + (x1.toNat - 128) * 64 + (x2.toNat - 128) < 2048 ∨ (55296 ≤ (x0.toNat - 224) * 4096 + (x1.toNat - 128) * 64 + (x2.toNat - 128) ∧ (x0.toNat - 224) * 4096 + (x1.toNat - 128) * 64 + (x2.toNat - 128) < 57344) then none else some 3) := by
    unfold firstR
    rw [if_neg (by omega), if_neg (by omega), if_pos ⟨g0, g1⟩]
    by_cases c : x1.toNat < 128 ∨ 192 ≤ x1.toNat ∨ x2.toNat < 128 ∨ 192 ≤ x2.toNat
    · rw [if_pos c, if_pos (by omega)]
    · rw [if_neg c, if_neg (by omega)]
  obtain ⟨R, hR⟩ : ∃ R, firstR s.size x0.toNat x1.toNat x2.toNat x3 = R := ⟨_, rfl⟩
  rw [hR] at hf ⊢
  clear hR
  have HF := Lib.hid hf
  clear hf
  have z0 : 0 < s.size := by omega
  have z1 : 1 < s.size := by omega
  go_enter Tryd.func86, Tryd.ntmps86
  go_wp2
  go_loop [7, 8] (fun c i => Rel3 x0.toNat x1.toNat x2.toNat c i) (fun _ i => 4 - (RowKit.intOf i).toNat)
  case atStart => exact .inl ⟨rfl, rfl⟩
  case round =>
    rcases hrel with ⟨rfl, rfl⟩ | ⟨rfl, rfl, q1, q2⟩ | ⟨rfl, rfl, q1, q2, q3, q4⟩
    · by_cases c : x1.toNat < 128 ∨ 192 ≤ x1.toNat
      · have hn : R = none := by rw [HF.out, if_pos (by omega)]
        have HN := Lib.hid hn
        clear hn HF
        rcases c with c | c
        all_goals
          go_wp2
          go_ret3
          exact ⟨FirstPost.no HN.out, rfl⟩
      · have c1 : 128 ≤ x1.toNat := by omega
        have c2 : x1.toNat < 192 := by omega
        clear c
        go_wp2
        go_round
        case rel => exact ⟨_, _, _, _, _, (.inr (.inl ⟨rfl, rfl, c1, c2⟩) : Rel3 _ _ _ _ _), rfl, rfl, rfl, rfl, rfl⟩
        case measure => simp [RowKit.intOf]
    · by_cases c : x2.toNat < 128 ∨ 192 ≤ x2.toNat
      · have hn : R = none := by rw [HF.out, if_pos (by omega)]
        have HN := Lib.hid hn
        clear hn HF
        rcases c with c | c
        all_goals
          go_wp2
          go_ret3
          exact ⟨FirstPost.no HN.out, rfl⟩
      · have c1 : 128 ≤ x2.toNat := by omega
        have c2 : x2.toNat < 192 := by omega
        clear c
        go_wp2
        go_round
        case rel => exact ⟨_, _, _, _, _, (.inr (.inr ⟨rfl, rfl, q1, q2, c1, c2⟩) : Rel3 _ _ _ _ _), rfl, rfl, rfl, rfl, rfl⟩
        case measure => simp [RowKit.intOf]
    · have hx := HF.out
      rw [if_neg (by omega)] at hx
      clear HF
      have HF := Lib.hid hx
      clear hx
      go_wp2
      all_goals go_ret3
      all_goals first
        | exact ⟨FirstPost.no (by rw [HF.out, if_pos (by omega)]), rfl⟩
        | exact ⟨FirstPost.yes (n := 3) (by rw [HF.out, if_neg (by omega)]), rfl⟩

def Rel2 (x0 x1 : Nat) (c i : Value) : Prop :=
  (i = .int .i64 1 ∧ c = .int .i64 ((x0 : Int) - 192)) ∨ (i = .int .i64 2 ∧ c = .int .i64 (((x0 : Int) - 192) * 64 + x1 - 128) ∧ 128 ≤ x1 ∧ x1 < 192)
set_option maxRecDepth 100000 in
set_option maxHeartbeats 1000000 in
theorem first_two (s : ByteArray) (w : World) (hs : s.size ≤ 9223372036854775807) (x0 x1 : UInt8) (h2 : 1 < s.size) (e0 : s[0]'(by omega) = x0) (e1 : s[1]'(by omega) = x1)
    (g0 : 194 ≤ x0.toNat) (g1 : x0.toNat < 224) (x2 x3 : Nat) :
    Calls Tryd.prog 86 #[.string s] w fun e w' => FirstPost (firstR s.size x0.toNat x1.toNat x2 x3) e ∧ w = w' := by
  have k1 := x1.toNat_lt
  have hf : firstR s.size x0.toNat x1.toNat x2 x3 = (if x1.toNat < 128 ∨ 192 ≤ x1.toNat then none else some 2) := by
    unfold firstR
    rw [if_neg (by omega), if_pos (by omega)]
    by_cases c : x1.toNat < 128 ∨ 192 ≤ x1.toNat
    · rw [if_pos c, if_pos (by omega)]
    · rw [if_neg c, if_neg (by omega)]
  obtain ⟨R, hR⟩ : ∃ R, firstR s.size x0.toNat x1.toNat x2 x3 = R := ⟨_, rfl⟩
  rw [hR] at hf ⊢
  clear hR
  have HF := Lib.hid hf
  clear hf
  have z0 : 0 < s.size := by omega
  go_enter Tryd.func86, Tryd.ntmps86
  go_wp2
  go_loop [7, 8] (fun c i => Rel2 x0.toNat x1.toNat c i) (fun _ i => 4 - (RowKit.intOf i).toNat)
  case atStart => exact .inl ⟨rfl, rfl⟩
  case round =>
    rcases hrel with ⟨rfl, rfl⟩ | ⟨rfl, rfl, q1, q2⟩
    · by_cases c : x1.toNat < 128 ∨ 192 ≤ x1.toNat
      · have hn : R = none := by rw [HF.out, if_pos (by omega)]
        have HN := Lib.hid hn
        clear hn HF
        rcases c with c | c
        all_goals
          go_wp2
          go_ret3
          exact ⟨FirstPost.no HN.out, rfl⟩
      · have c1 : 128 ≤ x1.toNat := by omega
        have c2 : x1.toNat < 192 := by omega
        clear c
        go_wp2
        go_round
        case rel => exact ⟨_, _, _, _, _, (.inr ⟨rfl, rfl, c1, c2⟩ : Rel2 _ _ _ _), rfl, rfl, rfl, rfl, rfl⟩
        case measure => simp [RowKit.intOf]
    · have hx := HF.out
      rw [if_neg (by omega)] at hx
      clear HF
      have HF := Lib.hid hx
      clear hx
      go_wp2
      all_goals go_ret3
      all_goals exact ⟨FirstPost.yes (n := 2) HF.out, rfl⟩
def Rel4 (x0 x1 x2 x3 : Nat) (c i : Value) : Prop :=
  (i = .int .i64 1 ∧ c = .int .i64 ((x0 : Int) - 240)) ∨ (i = .int .i64 2 ∧ c = .int .i64 (((x0 : Int) - 240) * 64 + x1 - 128) ∧ 128 ≤ x1 ∧ x1 < 192) ∨
  (i = .int .i64 3 ∧ c = .int .i64 ((((x0 : Int) - 240) * 64 + x1 - 128) * 64 + x2 - 128) ∧ 128 ≤ x1 ∧ x1 < 192 ∧ 128 ≤ x2 ∧ x2 < 192) ∨
  (i = .int .i64 4 ∧ c = .int .i64 (((((x0 : Int) - 240) * 64 + x1 - 128) * 64 + x2 - 128) * 64 + x3 - 128) ∧ 128 ≤ x1 ∧ x1 < 192 ∧ 128 ≤ x2 ∧ x2 < 192 ∧ 128 ≤ x3 ∧ x3 < 192)
set_option maxRecDepth 100000 in
set_option maxHeartbeats 2000000 in
theorem first_four (s : ByteArray) (w : World) (hs : s.size ≤ 9223372036854775807) (x0 x1 x2 x3 : UInt8) (h2 : 3 < s.size) (e0 : s[0]'(by omega) = x0) (e1 : s[1]'(by omega) = x1) (e2 : s[2]'(by omega) = x2) (e3 : s[3]'(by omega) = x3)
    (g0 : 240 ≤ x0.toNat) (g1 : x0.toNat < 245) :
    Calls Tryd.prog 86 #[.string s] w fun e w' => FirstPost (firstR s.size x0.toNat x1.toNat x2.toNat x3.toNat) e ∧ w = w' := by
  have k1 := x1.toNat_lt
  have k2 := x2.toNat_lt
  have k3 := x3.toNat_lt
  have hf : firstR s.size x0.toNat x1.toNat x2.toNat x3.toNat = (if x1.toNat < 128 ∨ 192 ≤ x1.toNat ∨ x2.toNat < 128 ∨ 192 ≤ x2.toNat ∨ x3.toNat < 128 ∨ 192 ≤ x3.toNat then none
      else if (x0.toNat - 240) * 262144 + (x1.toNat - 128) * 4096 + (x2.toNat - 128) * 64 + (x3.toNat - 128) < 65536 ∨ 1114111 < (x0.toNat - 240) * 262144 + (x1.toNat - 128) * 4096 + (x2.toNat - 128) * 64 + (x3.toNat - 128) then none else some 4) := by
    unfold firstR
    rw [if_neg (by omega), if_neg (by omega), if_neg (by omega), if_pos ⟨g0, g1⟩]
    by_cases c : x1.toNat < 128 ∨ 192 ≤ x1.toNat ∨ x2.toNat < 128 ∨ 192 ≤ x2.toNat ∨ x3.toNat < 128 ∨ 192 ≤ x3.toNat
    · rw [if_pos c, if_pos (by omega)]
    · rw [if_neg c, if_neg (by omega)]
  obtain ⟨R, hR⟩ : ∃ R, firstR s.size x0.toNat x1.toNat x2.toNat x3.toNat = R := ⟨_, rfl⟩
  rw [hR] at hf ⊢
  clear hR
  have HF := Lib.hid hf
  clear hf
  have z0 : 0 < s.size := by omega
  have z1 : 1 < s.size := by omega
  have z2 : 2 < s.size := by omega
  go_enter Tryd.func86, Tryd.ntmps86
  go_wp2
  go_loop [7, 8] (fun c i => Rel4 x0.toNat x1.toNat x2.toNat x3.toNat c i) (fun _ i => 6 - (RowKit.intOf i).toNat)
  case atStart => exact .inl ⟨rfl, rfl⟩
  case round =>
    rcases hrel with ⟨rfl, rfl⟩ | ⟨rfl, rfl, q1, q2⟩ | ⟨rfl, rfl, q1, q2, q3, q4⟩ | ⟨rfl, rfl, q1, q2, q3, q4, q5, q6⟩
    · by_cases c : x1.toNat < 128 ∨ 192 ≤ x1.toNat
      · have hn : R = none := by rw [HF.out, if_pos (by omega)]
        have HN := Lib.hid hn
        clear hn HF
        rcases c with c | c
        all_goals
          go_wp2
          go_ret3
          exact ⟨FirstPost.no HN.out, rfl⟩
      · have c1 : 128 ≤ x1.toNat := by omega
        have c2 : x1.toNat < 192 := by omega
        clear c
        go_wp2
        go_round
        case rel => exact ⟨_, _, _, _, _, (.inr (.inl ⟨rfl, rfl, c1, c2⟩) : Rel4 _ _ _ _ _ _), rfl, rfl, rfl, rfl, rfl⟩
        case measure => simp [RowKit.intOf]
    · by_cases c : x2.toNat < 128 ∨ 192 ≤ x2.toNat
      · have hn : R = none := by rw [HF.out, if_pos (by omega)]
        have HN := Lib.hid hn
        clear hn HF
        rcases c with c | c
        all_goals
          go_wp2
          go_ret3
          exact ⟨FirstPost.no HN.out, rfl⟩
      · have c1 : 128 ≤ x2.toNat := by omega
        have c2 : x2.toNat < 192 := by omega
        clear c
        go_wp2
        go_round
        case rel => exact ⟨_, _, _, _, _, (.inr (.inr (.inl ⟨rfl, rfl, q1, q2, c1, c2⟩)) : Rel4 _ _ _ _ _ _), rfl, rfl, rfl, rfl, rfl⟩
        case measure => simp [RowKit.intOf]
    · by_cases c : x3.toNat < 128 ∨ 192 ≤ x3.toNat
      · have hn : R = none := by rw [HF.out, if_pos (by omega)]
        have HN := Lib.hid hn
        clear hn HF
        rcases c with c | c
        all_goals
          go_wp2
          go_ret3
          exact ⟨FirstPost.no HN.out, rfl⟩
      · have c1 : 128 ≤ x3.toNat := by omega
        have c2 : x3.toNat < 192 := by omega
        clear c
        go_wp2
        go_round
        case rel => exact ⟨_, _, _, _, _, (.inr (.inr (.inr ⟨rfl, rfl, q1, q2, q3, q4, c1, c2⟩)) : Rel4 _ _ _ _ _ _), rfl, rfl, rfl, rfl, rfl⟩
        case measure => simp [RowKit.intOf]
    · have hx := HF.out
      rw [if_neg (by omega)] at hx
      clear HF
      have HF := Lib.hid hx
      clear hx
      go_wp2
      all_goals go_ret3
      all_goals first
        | exact ⟨FirstPost.no (by rw [HF.out, if_pos (by omega)]), rfl⟩
        | exact ⟨FirstPost.yes (n := 4) (by rw [HF.out, if_neg (by omega)]), rfl⟩
set_option maxRecDepth 100000 in
set_option maxHeartbeats 1000000 in
theorem first_one (s : ByteArray) (w : World) (_hs : s.size ≤ 9223372036854775807) (x0 : UInt8) (h2 : 0 < s.size) (e0 : s[0]'(by omega) = x0) (g1 : x0.toNat < 128) (x1 x2 x3 : Nat) :
    Calls Tryd.prog 86 #[.string s] w fun e w' => FirstPost (firstR s.size x0.toNat x1 x2 x3) e ∧ w = w' := by
  have hf : firstR s.size x0.toNat x1 x2 x3 = some 1 := by unfold firstR; rw [if_pos g1]
  rw [hf]
  clear hf
  go_enter Tryd.func86, Tryd.ntmps86
  go_wp2
  go_ret3
  exact ⟨FirstPost.yes (n := 1) rfl, rfl⟩
set_option maxRecDepth 100000 in
set_option maxHeartbeats 1000000 in
theorem first_none (s : ByteArray) (w : World) (hs : s.size ≤ 9223372036854775807) (x0 : UInt8) (h2 : 0 < s.size) (e0 : s[0]'(by omega) = x0) (x1 x2 x3 : Nat)
    (g : (128 ≤ x0.toNat ∧ x0.toNat < 194) ∨ 245 ≤ x0.toNat ∨ (194 ≤ x0.toNat ∧ x0.toNat < 224 ∧ s.size < 2) ∨ (224 ≤ x0.toNat ∧ x0.toNat < 240 ∧ s.size < 3) ∨ (240 ≤ x0.toNat ∧ x0.toNat < 245 ∧ s.size < 4)) :
    Calls Tryd.prog 86 #[.string s] w fun e w' => FirstPost (firstR s.size x0.toNat x1 x2 x3) e ∧ w = w' := by
  have hf : firstR s.size x0.toNat x1 x2 x3 = none := by
    unfold firstR
    rw [if_neg (by omega)]
    by_cases c1 : 194 ≤ x0.toNat ∧ x0.toNat < 224
    · rw [if_pos c1, if_pos (by omega)]
    rw [if_neg c1]
    by_cases c2 : 224 ≤ x0.toNat ∧ x0.toNat < 240
    · rw [if_pos c2, if_pos (by omega)]
    rw [if_neg c2]
    by_cases c3 : 240 ≤ x0.toNat ∧ x0.toNat < 245
    · rw [if_pos c3, if_pos (by omega)]
    rw [if_neg c3]
  rw [hf]
  clear hf
  have k0 := x0.toNat_lt
  rcases g with ⟨g1, g2⟩ | g1 | ⟨g1, g2, g3⟩ | ⟨g1, g2, g3⟩ | ⟨g1, g2, g3⟩
  all_goals
    go_enter Tryd.func86, Tryd.ntmps86
    go_wp2
    go_ret3
    exact ⟨FirstPost.no rfl, rfl⟩
theorem get_getD (s : ByteArray) (i : Nat) (h : i < s.size) : s[i]'h = s.data.toList.getD i 0 := by
  rw [getD_get!']
  exact (Utf8W.get!_of_lt s i h).symm
/-- WHAT 'first' SAYS, AT EVERY TEXT THAT IS NOT EMPTY. -/
theorem first_any (s : ByteArray) (w : World) (hs : s.size ≤ 9223372036854775807) (h0 : 0 < s.size) :
    Calls Tryd.prog 86 #[.string s] w fun e w' => FirstPost (if bad s.data.toList then none else some (decodeL s.data.toList).2) e ∧ w = w' := by
  have b := fun i => (s.data.toList.getD i 0).toNat_lt
  have hR : (if bad s.data.toList then none else some (decodeL s.data.toList).2) = firstR s.size (s.data.toList.getD 0 0).toNat (s.data.toList.getD 1 0).toNat (s.data.toList.getD 2 0).toNat (s.data.toList.getD 3 0).toNat := by
    rw [firstR_eq _ _ _ _ _ (b 0) (b 1) (b 2) (b 3), size_eq, ← decodeL_N]
    rfl
  rw [hR]
  have k0 := b 0
  by_cases c0 : (s.data.toList.getD 0 0).toNat < 128
  · exact first_one s w hs _ h0 (get_getD s 0 _) c0 _ _ _
  by_cases c1 : 194 ≤ (s.data.toList.getD 0 0).toNat ∧ (s.data.toList.getD 0 0).toNat < 224 ∧ 1 < s.size
  · exact first_two s w hs _ _ c1.2.2 (get_getD s 0 _) (get_getD s 1 _) c1.1 c1.2.1 _ _
  by_cases c2 : 224 ≤ (s.data.toList.getD 0 0).toNat ∧ (s.data.toList.getD 0 0).toNat < 240 ∧ 2 < s.size
  · exact first_three s w hs _ _ _ c2.2.2 (get_getD s 0 _) (get_getD s 1 _) (get_getD s 2 _) c2.1 c2.2.1 _
  by_cases c3 : 240 ≤ (s.data.toList.getD 0 0).toNat ∧ (s.data.toList.getD 0 0).toNat < 245 ∧ 3 < s.size
  · exact first_four s w hs _ _ _ _ c3.2.2 (get_getD s 0 _) (get_getD s 1 _) (get_getD s 2 _) (get_getD s 3 _) c3.1 c3.2.1
  exact first_none s w hs _ h0 (get_getD s 0 _) _ _ _ (by omega)
end Go.Proofs.YtphapjbfaomblaaDoor
