/- A piece is what its code point encodes to. -/
import Derived.Test.YtphapjbfaomblaaDoorM1
import Derived.Test.YtphapjbfaomblaaDoorV1
namespace Go.Proofs.YtphapjbfaomblaaDoor
open Go Go.Lib
theorem bytes_eq {a b : List UInt8} (h : a.toArray = b.toArray) : ofL a = ofL b := by rw [ofL, ofL, h]
theorem byte_of (n : Nat) (z : Int) (h : z = n) : UInt8.ofNat n = z.toNat.toUInt8 := by subst h; rfl
theorem encode_ofL (r : Nat) (h : r ≤ 1114111) (hs : ¬ (55296 ≤ r ∧ r ≤ 57343)) : Utf8.encode (r : Int) = ofL (encodeRune (r : Int)) := by
  have hv : Utf8.valid (r : Int) = true := by
    unfold Utf8.valid
    by_cases h1 : r < 55296
    · simp; omega
    · simp; omega
  unfold Utf8.encode
  simp only [hv, if_true, Int.toNat_natCast]
  unfold encodeRune
  by_cases h1 : r < 128
  · rw [if_pos h1, encodeRuneZ_one (by omega) (by omega)]
    rfl
  rw [if_neg h1]
  by_cases h2 : r < 2048
  · rw [if_pos h2, encodeRuneZ_two (by omega) (by omega)]
    simp only [List.map_cons, List.map_nil]
    rw [byte_of _ (192 + (r : Int) / 64) (by omega), byte_of _ (128 + (r : Int) % 64) (by omega)]
    rfl
  rw [if_neg h2]
  by_cases h3 : r < 65536
  · rw [if_pos h3, encodeRuneZ_three (by omega)]
    simp only [List.map_cons, List.map_nil]
    rw [byte_of _ (224 + (r : Int) / 4096) (by omega), byte_of _ (128 + (r : Int) / 64 % 64) (by omega), byte_of _ (128 + (r : Int) % 64) (by omega)]
    rfl
  rw [if_neg h3, encodeRuneZ_four (by omega) (by omega)]
  simp only [List.map_cons, List.map_nil]
  rw [byte_of _ (240 + (r : Int) / 262144) (by omega), byte_of _ (128 + (r : Int) / 4096 % 64) (by omega), byte_of _ (128 + (r : Int) / 64 % 64) (by omega), byte_of _ (128 + (r : Int) % 64) (by omega)]
  rfl
/-- the code point of a piece: below 128 just if the piece is that byte; never a half -/
theorem piece_rune {p : Bs} (h : isP p) : (decodeL p).1 ≤ 1114111 ∧ ¬ (55296 ≤ (decodeL p).1 ∧ (decodeL p).1 ≤ 57343) ∧
    (((decodeL p).1 < 128 ∧ ∃ b, p = [b] ∧ b.toNat = (decodeL p).1) ∨ (128 ≤ (decodeL p).1 ∧ 2 ≤ p.length)) := by
  have hl := h.pos
  have hv := h.2.1
  have hw := h.2.2
  unfold bad at hv
  rw [decodeL_N] at hv hw ⊢
  rcases decodeN_shape p.length (p.getD 0 0).toNat (p.getD 1 0).toNat (p.getD 2 0).toNat (p.getD 3 0).toNat with ⟨c, e⟩ | ⟨e1, e2, e3, ev, e⟩ | ⟨e1, e2, e3, e4, ev, es, e⟩ | ⟨e1, e2, e3, e4, e5, ev, ew, e⟩ | e
  · rw [e] at hw ⊢
    dsimp only at hw ⊢
    refine ⟨by omega, by omega, .inl ⟨c, ?_⟩⟩
    match p, hw with
    | [b], _ => exact ⟨b, rfl, rfl⟩
  · rw [e] at hw ⊢
    dsimp only at hw ⊢
    exact ⟨by omega, by omega, .inr ⟨by omega, by omega⟩⟩
  · rw [e] at hw ⊢
    dsimp only at hw ⊢
    exact ⟨by omega, by omega, .inr ⟨by omega, by omega⟩⟩
  · rw [e] at hw ⊢
    dsimp only at hw ⊢
    exact ⟨by omega, by omega, .inr ⟨by omega, by omega⟩⟩
  · rw [e] at hv
    exact absurd ⟨rfl, rfl⟩ hv
theorem encode_piece {p : Bs} (h : isP p) : Utf8.encode (((decodeL p).1 : Nat) : Int) = ofL p := by
  obtain ⟨h1, h2, _⟩ := piece_rune h
  rw [encode_ofL _ h1 h2, encode_decode p h.1 h.2.1, h.2.2, List.take_length]
end Go.Proofs.YtphapjbfaomblaaDoor
