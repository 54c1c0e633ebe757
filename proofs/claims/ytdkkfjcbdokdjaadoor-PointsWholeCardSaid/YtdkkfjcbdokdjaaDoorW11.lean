/- The walk of what an identifier is, the document's. -/
import Derived.Test.YtdkkfjcbdokdjaaDoorW10
namespace Go.Proofs.YtdkkfjcbdokdjaaDoor
open Go.RowKit
theorem letterS_byte (b : UInt8) : letterS (ofL [b]) = letterU b := by
  rw [letterS_one (show (ofL [b]).size = 1 by rw [ofL_size]; rfl)]
  unfold letterU
  rw [ofL_get [b] 0 (by simp)]
  rfl
theorem partS_byte (b : UInt8) : partS (ofL [b]) = partU b := by
  rw [partS_one (show (ofL [b]).size = 1 by rw [ofL_size]; rfl)]
  unfold partU
  rw [ofL_get [b] 0 (by simp)]
  rfl
theorem rletter_byte (b : UInt8) (w : World) : Calls Tryd.prog 34 #[.string (ofL [b])] w fun e w' => e = .returned (.bool (letterU b)) ∧ w = w' := by
  have := rletter_any (ofL [b]) w (by rw [ofL_size]; simp)
  rwa [letterS_byte] at this
theorem rpart_byte (b : UInt8) (w : World) : Calls Tryd.prog 30 #[.string (ofL [b])] w fun e w' => e = .returned (.bool (partU b)) ∧ w = w' := by
  have := rpart_any (ofL [b]) w (by rw [ofL_size]; simp)
  rwa [partS_byte] at this
theorem one_byte (l : List UInt8) (k : Nat) (h : k < l.length) : (ofL l).extract k (k + 1) = ofL [l[k]] := by
  rw [ofL_extract]
  congr 1
  rw [Nat.add_sub_cancel_left, List.drop_eq_getElem_cons h]
  rfl
set_option maxHeartbeats 1000000 in
theorem rident_any (l : List UInt8) (w : World) (hl : l.length ≤ 1000000) :
    Calls Tryd.prog 18 #[.string (ofL l)] w fun e w' => e = .returned (.bool (identL l)) ∧ w = w' := by
  obtain ⟨R, hR⟩ : ∃ R, identL l = R := ⟨_, rfl⟩
  rw [hR]
  have HR := Lib.hid hR
  clear hR
  have hsz := ofL_size l
  by_cases h0 : l = []
  · have hno : R = false := by rw [← HR.out, h0]; rfl
    have HNO := Lib.hid hno
    have hem : (ofL l).toList.isEmpty = true := by rw [ofL_isEmpty, h0]; rfl
    clear hno HR h0 hsz
    go_enter Tryd.func18, Tryd.ntmps18
    go_wp2
    go_ret
    exact ⟨ret_bool' HNO.out.symm, rfl⟩
  · have hem : (ofL l).toList.isEmpty = false := by rw [ofL_isEmpty]; simpa using h0
    have hpos := List.length_pos_iff.2 h0
    have hp1 : 1 ≤ (ofL l).size := by omega
    have hx0 := one_byte l 0 hpos
    have CL := Lib.hid (fun w => rletter_byte (l[0]'hpos) w)
    obtain ⟨b, hb⟩ : ∃ b, l[0]'hpos = b := ⟨_, rfl⟩
    rw [hb] at CL hx0
    rw [Nat.zero_add] at hx0
    cases hlb : letterU b
    · have hno : R = false := by rw [← HR.out]; exact identL_no_letter hpos (by rw [hb]; exact hlb)
      have HNO := Lib.hid hno
      have cl := CL.out
      rw [hlb] at cl
      have CL2 := Lib.hid cl
      clear hno HR h0 hb cl hlb CL hsz
      go_enter Tryd.func18, Tryd.ntmps18
      go_wp2_with (go_at_call 34; refine (CL2.out _).mono ?_; rintro e w' ⟨rfl, rfl⟩)
      go_ret
      exact ⟨ret_bool' HNO.out.symm, rfl⟩
    · have cl := CL.out
      rw [hlb] at cl
      have CL2 := Lib.hid cl
      have HLB := Lib.hid (show ∀ h : 0 < l.length, letterU l[0] = true from fun h => by have : l[0] = b := hb; rw [this]; exact hlb)
      have H0 := Lib.hid h0
      have HSZ := Lib.hid hsz
      clear h0 hb cl hlb CL hsz
      go_enter Tryd.func18, Tryd.ntmps18
      go_wp2_with (go_at_call 34; refine (CL2.out _).mono ?_; rintro e w' ⟨rfl, rfl⟩)
      go_loop [3] (fun i => ∃ k : Nat, k ≤ l.length ∧ i = .int .i64 k ∧ Hid (∀ j (h : j < l.length), j < k → partU l[j] = true)) (fun i => l.length - (intOf i).toNat)
      case atStart => exact ⟨0, Nat.zero_le _, rfl, Lib.hid (fun j _ h => absurd h (by omega))⟩
      case round =>
        obtain ⟨k, hk, rfl, HP⟩ := hrel
        by_cases hlt : k < l.length
        · have hks : k < (ofL l).size := by have := HSZ.out; omega
          have hks1 : k + 1 ≤ (ofL l).size := by omega
          have hx := one_byte l k hlt
          have CP := Lib.hid (fun w => rpart_byte (l[k]'hlt) w)
          obtain ⟨c, hc⟩ : ∃ c, l[k]'hlt = c := ⟨_, rfl⟩
          rw [hc] at CP hx
          have cp := CP.out
          cases hpc : partU c
          · have hno : R = false := by rw [← HR.out]; exact identL_no_part hlt (by rw [hc]; exact hpc)
            have HNO := Lib.hid hno
            rw [hpc] at cp
            have CP2 := Lib.hid cp
            clear hno HR hc cp hpc CP
            go_wp2_with (go_at_call 30; refine (CP2.out _).mono ?_; rintro e w' ⟨rfl, rfl⟩)
            go_ret
            exact ⟨ret_bool' HNO.out.symm, rfl⟩
          · rw [hpc] at cp
            have CP2 := Lib.hid cp
            have HP2 := Lib.hid (show ∀ j (h : j < l.length), j < k + 1 → partU l[j] = true from fun j h hj => by
              by_cases e : j = k
              · subst e
                exact (congrArg partU hc).trans hpc
              · exact HP.out j h (by omega))
            clear HR hc cp hpc CP
            go_wp2_with (go_at_call 30; refine (CP2.out _).mono ?_; rintro e w' ⟨rfl, rfl⟩)
            go_round
            case rel => exact ⟨k + 1, by omega, by go_num, HP2⟩
            case measure => simp [intOf]; omega
        · have hy : R = true := by
            rw [← HR.out]
            exact identL_of H0.out (fun j hj => HP.out j hj (by omega)) HLB.out
          have HY := Lib.hid hy
          have hge : ¬ k < (ofL l).size := by have := HSZ.out; omega
          clear hy HR
          go_wp2
          go_ret
          exact ⟨ret_bool' HY.out.symm, rfl⟩
end Go.Proofs.YtdkkfjcbdokdjaaDoor
