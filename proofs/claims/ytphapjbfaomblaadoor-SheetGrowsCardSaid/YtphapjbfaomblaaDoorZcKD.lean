/- The document's Text: the elements' pieces, one behind the other. -/
import Derived.Test.YtphapjbfaomblaaDoorZb26
import Derived.Test.YtphapjbfaomblaaDoorZb23
namespace Go.Proofs.YtphapjbfaomblaaDoor
open Go Go.RowKit
theorem txt_succ (E : List El) {k : Nat} (h : k < E.length) : txt (E.take (k + 1)) = txt (E.take k) ++ E[k].pc.data.toList := by
  unfold txt
  rw [List.take_succ_eq_append_getElem h, List.map_append, List.flatten_append]
  simp
theorem txt_take_le (E : List El) (k : Nat) : (txt (E.take k)).length ≤ (txt E).length := by
  have : txt E = txt (E.take k) ++ txt (E.drop k) := by
    unfold txt
    rw [← List.flatten_append, ← List.map_append, List.take_append_drop]
  rw [this, List.length_append]
  omega
set_option maxHeartbeats 400000 in
theorem rtext_any (E : List El) (A : Option Addr) (n c B : Nat) (w : World) (h : Rd w B 7 (.slice A n c) n (E.flatMap reC)) (hl : (txt E).length ≤ 1000000000) :
    Calls Tryd.prog 37 #[.slice A n c] w fun e w' => e = .returned (.string (ofL (txt E))) ∧ w = w' := by
  obtain rfl := len_of reC 7 (fun _ => rfl) (by decide) h.1
  have hm := h.len.2
  unfold maxLen at hm
  have H := Lib.hid h
  have HL := Lib.hid hl
  clear h hl
  go_enter Tryd.func37, Tryd.ntmps37
  go_wp2
  go_loop [3, 4] (fun t i => ∃ k : Nat, k ≤ E.length ∧ i = .int .i64 k ∧ t = .string (ofL (txt (E.take k)))) (fun _ i => E.length - (intOf i).toNat)
  case atStart => exact ⟨0, Nat.zero_le _, rfl, rfl⟩
  case round =>
    obtain ⟨k, hk, rfl, rfl⟩ := hrel
    by_cases hlt : k < E.length
    · obtain ⟨b, o, rfl, hb, hc⟩ := rd_at reC 7 (fun _ => rfl) (by decide) H.out hlt
      have c1 : w.cell? ⟨b, o + k * 7 + 6, none⟩ = some (.string E[k].pc) := hc 6 _ rfl
      have hs := txt_succ E hlt
      have hle := txt_take_le E (k + 1)
      have hl := HL.out
      obtain ⟨x, hx⟩ : ∃ x, E[k].pc = x := ⟨_, rfl⟩
      rw [hx] at c1 hs
      obtain ⟨y, hy⟩ : ∃ y, txt (E.take k) = y := ⟨_, rfl⟩
      rw [hy] at hs ⊢
      have hsz : (ofL y).size + x.size ≤ 1000000000 := by
        rw [ofL_size]
        rw [hs, List.length_append, ← Lib.size_eq] at hle
        omega
      have hap : ofL y ++ x = ofL (txt (E.take (k + 1))) := by rw [hs, ← ofL_append, ofL_data]
      have HS := Lib.hid hap
      clear hs hc hx hy hle hl hap
      go_wp2
      go_round
      case rel => exact ⟨k + 1, by omega, by go_num, by rw [HS.out]⟩
      case measure => simp [intOf]; omega
    · obtain rfl : k = E.length := by omega
      rw [List.take_length]
      go_wp2
      go_ret
      exact ⟨rfl, rfl⟩
end Go.Proofs.YtphapjbfaomblaaDoor
