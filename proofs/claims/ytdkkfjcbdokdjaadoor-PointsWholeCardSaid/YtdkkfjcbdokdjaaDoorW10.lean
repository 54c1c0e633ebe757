/- The walks of what an identifier is. -/
import Derived.Test.YtdkkfjcbdokdjaaDoorW1
import Derived.Test.YtdkkfjcbdokdjaaDoorW6
namespace Go.Proofs.YtdkkfjcbdokdjaaDoor
open Go.RowKit
def partU (b : UInt8) : Bool := partB b.toNat
def letterU (b : UInt8) : Bool := letterB b.toNat
/-- an identifier: a letter, and parts -/
def identL (l : List UInt8) : Bool := match l with | [] => false | b :: _ => letterU b && l.all partU
theorem part_lt {c : Int} (h : partB c = true) : 0 ≤ c ∧ c < 128 := by
  unfold partB at h
  have := of_decide_eq_true h
  omega
theorem letter_part {c : Int} (h : letterB c = true) : partB c = true := by
  unfold partB
  have := letter_true h
  exact decide_eq_true (by omega)
theorem part_high {c : Int} (h : 128 ≤ c) : partB c = false := by
  cases hp : partB c
  · rfl
  · have := part_lt hp; omega
theorem identL_of {l : List UInt8} (h0 : l ≠ []) (h1 : ∀ j (h : j < l.length), partU l[j] = true) (h2 : ∀ h : 0 < l.length, letterU l[0] = true) : identL l = true := by
  match l, h0 with
  | b :: t, _ =>
    have ha := h2 (by simp)
    have hb : (b :: t).all partU = true := by
      rw [List.all_eq_true]
      intro x hx
      obtain ⟨j, hj, e⟩ := List.getElem_of_mem hx
      rw [← e]
      exact h1 j hj
    show (letterU b && (b :: t).all partU) = true
    rw [hb]
    simpa using ha
theorem identL_no_part {l : List UInt8} {j : Nat} (h : j < l.length) (hp : partU l[j] = false) : identL l = false := by
  match l, h with
  | b :: t, h =>
    have hb : (b :: t).all partU = false := by
      rw [List.all_eq_false]
      exact ⟨_, List.getElem_mem h, by rw [hp]; simp⟩
    show (letterU b && (b :: t).all partU) = false
    rw [hb, Bool.and_false]
theorem identL_no_letter {l : List UInt8} (h : 0 < l.length) (hp : letterU l[0] = false) : identL l = false := by
  match l, h with
  | b :: t, h =>
    have hp' : letterU b = false := hp
    show (letterU b && (b :: t).all partU) = false
    rw [hp', Bool.false_and]
def IdRel (l : List UInt8) (w : World) (wr : World) : Prop :=
  ∃ k : Nat, k ≤ l.length ∧ wr.heap[w.heap.size]? = some (.stringIter (ofL l) k) ∧ (∀ j (h : j < l.length), j < k → partU l[j] = true) ∧ (0 < k → ∀ h : 0 < l.length, letterU l[0] = true) ∧ Below w.heap.size w wr
theorem ofL_get (l : List UInt8) (k : Nat) (h : k < l.length) : (ofL l)[k]'(by rw [ofL_size]; exact h) = l[k] := by
  simp [ofL, ByteArray.getElem_eq_getElem_data]
theorem ofL_isEmpty (l : List UInt8) : (ofL l).toList.isEmpty = l.isEmpty := by rw [Lib.toList_data, ofL_toList]
theorem code_at (l : List UInt8) (k : Nat) (h : k < l.length) (c d : Nat) (hc : (Utf8.decode (ofL l) k).1 = c) (hd : (Utf8.decode (ofL l) k).2 = d) :
    (l[k].toNat < 128 ∧ c = l[k].toNat ∧ d = 1) ∨ (128 ≤ l[k].toNat ∧ 128 ≤ c) := by
  have hks : k < (ofL l).size := by rw [ofL_size]; exact h
  have hg := ofL_get l k h
  by_cases ha : l[k].toNat < 128
  · have := decode_ascii (ofL l) k hks (by rw [hg]; exact ha)
    rw [this] at hc hd
    rw [hg] at hc
    exact .inl ⟨ha, hc.symm, hd.symm⟩
  · have := (decode_high (ofL l) k hks (by rw [hg]; omega)).1
    exact .inr ⟨by omega, by omega⟩
theorem partU_code {l : List UInt8} {k : Nat} (h : k < l.length) {c d : Nat} (hc : (l[k].toNat < 128 ∧ c = l[k].toNat ∧ d = 1) ∨ (128 ≤ l[k].toNat ∧ 128 ≤ c)) : partU l[k] = partB c := by
  unfold partU
  rcases hc with ⟨_, e, _⟩ | ⟨h1, h2⟩
  · rw [e]
  · rw [part_high (by omega), part_high (by omega)]
set_option maxHeartbeats 1000000 in
theorem ident_any (l : List UInt8) (w : World) (hl : l.length ≤ 1000000) :
    Calls Tryd.prog 17 #[.string (ofL l)] w fun e w' => e = .returned (.bool (identL l)) ∧ Below w.heap.size w w' := by
  obtain ⟨R, hR⟩ : ∃ R, identL l = R := ⟨_, rfl⟩
  rw [hR]
  have HR := Lib.hid hR
  clear hR
  go_enter Tryd.func17, Tryd.ntmps17
  go_wp2
  go_loopw [3, 4] (fun _ _ wr => IdRel l w wr) (fun _ _ wr => (ofL l).size - wr.iterPos w.heap.size)
  case atStart => exact ⟨0, Nat.zero_le _, World.iter_heap _ _ _, fun j _ h => absurd h (by omega), fun h => absurd h (by omega), (Below.refl _ _).alloc (Nat.le_refl _) _⟩
  case round =>
    obtain ⟨k, hk, hit, hp, hf, hbw⟩ := hrel
    have hsz := ofL_size l
    have HSZ := Lib.hid hsz
    by_cases hlt : k < l.length
    · have hnx := fun ty => Lib.run_next_any_at (P := Tryd.prog) wr w.heap.size (ofL l) k ty hit (by omega)
      obtain ⟨c, hc⟩ : ∃ c, (Utf8.decode (ofL l) k).1 = c := ⟨_, rfl⟩
      obtain ⟨d, hd⟩ : ∃ d, (Utf8.decode (ofL l) k).2 = d := ⟨_, rfl⟩
      have hcle : c ≤ 2147483647 := by rw [← hc]; exact decode_le _ _
      rw [hc, hd] at hnx
      have hc1 : (c : Int) ≤ 2147483647 := by omega
      have hc0 : (0 : Int) ≤ c := by omega
      have CP := Lib.hid (fun w => part_any c w hc0 hc1)
      have CL := Lib.hid (fun w => letter_any c w hc0 hc1)
      cases hpc : partB c
      · -- no part
        have hno : R = false := by
          rw [← HR.out]
          refine identL_no_part hlt ?_
          rw [partU_code hlt (code_at l k hlt c d hc hd)]; exact hpc
        have HNO := Lib.hid hno
        have cp := CP.out
        rw [hpc] at cp
        have CP2 := Lib.hid cp
        have hbw2 := below_iterAt hbw (Nat.le_refl _) (ofL l) (k + d)
        clear CP cp hno HR hpc hc hd hsz hp hf hit
        go_wp2_with (go_at_call 32; refine (CP2.out _).mono ?_; rintro e w' ⟨rfl, rfl⟩)
        go_ret
        exact ⟨ret_bool' HNO.out.symm, hbw2⟩
      · have hca : c < 128 := by have := (part_lt hpc).2; omega
        have hpk : partU l[k] = true := by rw [partU_code hlt (code_at l k hlt c d hc hd)]; exact hpc
        obtain ⟨ec, ed⟩ : c = l[k].toNat ∧ d = 1 := by
          rcases code_at l k hlt c d hc hd with h | h
          · exact h.2
          · omega
        have cp := CP.out
        rw [hpc] at cp
        have CP2 := Lib.hid cp
        have hit2 := Lib.iterAt_heap wr w.heap.size (ofL l) k (k + d) hit
        have hbw2 := below_iterAt hbw (Nat.le_refl _) (ofL l) (k + d)
        rw [ed] at hnx hit2 hbw2
        have HIT := Lib.hid hit
        have HIT2 := Lib.hid hit2
        have HP := Lib.hid (show ∀ j (h : j < l.length), j < k + 1 → partU l[j] = true from fun j h hj => by
          by_cases e : j = k
          · subst e; exact hpk
          · exact hp j h (by omega))
        have HF := Lib.hid hf
        by_cases hk0 : k = 0
        · have hkz : ((k : Int) == 0) = true := by rw [beq_iff_eq]; omega
          cases hlc : letterB c
          · have hno : R = false := by
              rw [← HR.out]
              subst hk0
              exact identL_no_letter hlt (by unfold letterU; rw [← ec]; exact hlc)
            have HNO := Lib.hid hno
            have cl := CL.out
            rw [hlc] at cl
            have CL2 := Lib.hid cl
            clear CP cp hno HR hpc hc hd hsz hp hf hit hit2 CL cl hk0 ec ed hca hlc hpk
            go_wp2_with (first | (go_at_call 32; refine (CP2.out _).mono ?_; rintro e w' ⟨rfl, rfl⟩) | (go_at_call 33; refine (CL2.out _).mono ?_; rintro e w' ⟨rfl, rfl⟩))
            go_ret
            exact ⟨ret_bool' HNO.out.symm, hbw2⟩
          · have HF2 := Lib.hid (show 0 < k + 1 → ∀ h : 0 < l.length, letterU l[0] = true from fun _ _ => by
              subst hk0
              unfold letterU; rw [← ec]; exact hlc)
            have cl := CL.out
            rw [hlc] at cl
            have CL2 := Lib.hid cl
            clear CP cp HR hpc hc hd hsz hp hf hit hit2 CL cl hk0 ec ed hca hlc hpk hcle
            go_wp2_with (first | (go_at_call 32; refine (CP2.out _).mono ?_; rintro e w' ⟨rfl, rfl⟩) | (go_at_call 33; refine (CL2.out _).mono ?_; rintro e w' ⟨rfl, rfl⟩))
            go_roundw
            case rel => exact ⟨k + 1, by omega, HIT2.out, HP.out, HF2.out, hbw2⟩
            case measure => rw [iter_pos HIT2.out, iter_pos HIT.out, HSZ.out]; omega
        · have hkz : ((k : Int) == 0) = false := by rw [beq_eq_false_iff_ne]; omega
          have hkp : 0 < k := by omega
          clear CP cp HR hpc hc hd hsz hp hf hit hit2 CL hk0 ec ed hca hpk hcle
          go_wp2_with (go_at_call 32; refine (CP2.out _).mono ?_; rintro e w' ⟨rfl, rfl⟩)
          go_roundw
          case rel => exact ⟨k + 1, by omega, HIT2.out, HP.out, fun _ => HF.out hkp, hbw2⟩
          case measure => rw [iter_pos HIT2.out, iter_pos HIT.out, HSZ.out]; omega
    · have hn := fun ty => Lib.run_next_end_at (P := Tryd.prog) wr w.heap.size (ofL l) k ty hit (by omega)
      have hke : k = l.length := by omega
      by_cases h0 : l = []
      · have hno : R = false := by rw [← HR.out, h0]; rfl
        have HNO := Lib.hid hno
        clear hp hf hit HR hno hke hsz
        subst h0
        go_wp2
        go_ret
        exact ⟨ret_bool' (by rw [HNO.out, ofL_isEmpty]; rfl), hbw⟩
      · have hy : R = true := by
          rw [← HR.out]
          have hpos := List.length_pos_iff.2 h0
          exact identL_of h0 (fun j hj => hp j hj (by omega)) (hf (by omega))
        have HY := Lib.hid hy
        have hem : l.isEmpty = false := by simpa using h0
        have HEM := Lib.hid hem
        clear hp hf hit HR hy hke hsz h0 hem
        go_wp2
        go_ret
        exact ⟨ret_bool' (by rw [HY.out, ofL_isEmpty, HEM.out]; rfl), hbw⟩
end Go.Proofs.YtdkkfjcbdokdjaaDoor
