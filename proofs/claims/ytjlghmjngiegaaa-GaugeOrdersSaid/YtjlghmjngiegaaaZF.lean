/- slices.SortStableFunc of the places 0, 1, .. with a comparison by keys. -/
import Derived.Test.YtjlghmjngiegaaaZE
namespace Go.Proofs.Ytjlghmjngiegaaa
open Go Go.Gauge Go.RowKit
/-- ordered blocks of s elements each, from a place on; the last one may be shorter -/
inductive Blks (f : Nat → Int) (s : Nat) : Nat → List Nat → Prop
  | nil (lo : Nat) : Blks f s lo []
  | last (lo : Nat) (S : List Nat) : 0 < S.length → S.length ≤ s → S.Perm (List.range' lo S.length) → S.Pairwise (Lex f) → Blks f s lo S
  | cons (lo : Nat) (S T : List Nat) : S.length = s → S.Perm (List.range' lo s) → S.Pairwise (Lex f) → Blks f s (lo + s) T → Blks f s lo (S ++ T)
inductive Full (f : Nat → Int) (s : Nat) : List Nat → Prop
  | nil : Full f s []
  | snoc (P S : List Nat) : Full f s P → S.length = s → S.Perm (List.range' P.length s) → S.Pairwise (Lex f) → Full f s (P ++ S)
theorem Full.blks {f : Nat → Int} {s : Nat} {P : List Nat} (h : Full f s P) : ∀ T, Blks f s P.length T → Blks f s 0 (P ++ T) := by
  induction h with
  | nil => exact fun T h => h
  | snoc P S _ h1 h2 h3 ih =>
    intro T hT
    rw [List.append_assoc]
    refine ih _ (.cons _ S T h1 h2 h3 ?_)
    rw [List.length_append, h1] at hT
    exact hT
theorem blks_two {f : Nat → Int} {s lo : Nat} {T : List Nat} (hs : 0 < s) (h : Blks f s lo T) (hl : 2 * s ≤ T.length) : ∃ S1 S2 T', T = S1 ++ S2 ++ T' ∧ S1.length = s ∧ S2.length = s ∧ S1.Perm (List.range' lo s) ∧ S2.Perm (List.range' (lo + s) s) ∧ S1.Pairwise (Lex f) ∧ S2.Pairwise (Lex f) ∧ Blks f s (lo + 2 * s) T' := by
  cases h with
  | nil => simp at hl; omega
  | last _ _ h1 h2 => omega
  | cons _ S1 T1 h1 h2 h3 h4 =>
    rw [List.length_append] at hl
    cases h4 with
    | nil => simp at hl; omega
    | last _ _ g1 g2 g3 g4 =>
      have : T1.length = s := by omega
      exact ⟨S1, T1, [], by simp, h1, this, h2, this ▸ g3, h3, g4, .nil _⟩
    | cons _ S2 T2 g1 g2 g3 g4 => exact ⟨S1, S2, T2, by simp, h1, g1, h2, g2, h3, g3, by rw [show lo + 2 * s = lo + s + s by omega]; exact g4⟩
theorem blks_rest {f : Nat → Int} {s lo : Nat} {T : List Nat} (hs : 0 < s) (h : Blks f s lo T) (hl : T.length < 2 * s) : (T.length ≤ s ∧ Blks f (2 * s) lo T) ∨ ∃ S1 S2, T = S1 ++ S2 ∧ S1.length = s ∧ 0 < S2.length ∧ S2.length < s ∧ S1.Perm (List.range' lo s) ∧ S2.Perm (List.range' (lo + s) S2.length) ∧ S1.Pairwise (Lex f) ∧ S2.Pairwise (Lex f) := by
  cases h with
  | nil => exact .inl ⟨by simp, .nil _⟩
  | last _ _ h1 h2 h3 h4 => exact .inl ⟨h2, .last _ _ h1 (by omega) h3 h4⟩
  | cons _ S1 T1 h1 h2 h3 h4 =>
    rw [List.length_append] at hl
    cases h4 with
    | nil => exact .inl ⟨by simp [h1], by rw [List.append_nil]; exact .last _ _ (by omega) (by omega) (h1.symm ▸ h2) h3⟩
    | last _ _ g1 g2 g3 g4 => exact .inr ⟨S1, T1, rfl, h1, g1, by omega, h2, g3, h3, g4⟩
    | cons _ S2 T2 g1 g2 g3 g4 => rw [List.length_append] at hl; omega
theorem blks_whole {f : Nat → Int} {s : Nat} {Z : List Nat} (h : Blks f s 0 Z) (hl : Z.length ≤ s) : Z.Pairwise (Lex f) := by
  cases h with
  | nil => exact List.Pairwise.nil
  | last _ _ _ _ _ h4 => exact h4
  | cons _ S T h1 _ h3 _ =>
    rw [List.length_append] at hl
    rw [List.eq_nil_of_length_eq_zero (show T.length = 0 by omega), List.append_nil]
    exact h3
theorem range_cross {lo s k : Nat} {S1 S2 : List Nat} (h1 : S1.Perm (List.range' lo s)) (h2 : S2.Perm (List.range' (lo + s) k)) : ∀ x ∈ S1, ∀ y ∈ S2, x < y := fun x hx y hy => by
  have a := h1.mem_iff.1 hx
  have b := h2.mem_iff.1 hy
  rw [List.mem_range'_1] at a b
  omega
theorem range_join {lo s k : Nat} {S1 S2 S : List Nat} (h1 : S1.Perm (List.range' lo s)) (h2 : S2.Perm (List.range' (lo + s) k)) (h : S.Perm (S1 ++ S2)) : S.Perm (List.range' lo (s + k)) :=
  h.trans ((h1.append h2).trans (by rw [List.range'_append_1]))
def B1Rel (g cap n : Nat) (w0 : World) (f : Nat → Int) (a b : Value) (wr : World) : Prop :=
  ∃ (c d : Nat) (P : List Nat), P.length = c ∧ c + 20 = d ∧ c ≤ n ∧ a = .int .i64 (c : Int) ∧ b = .int .i64 (d : Int) ∧ Full f 20 P ∧ (P ++ List.range' c (n - c)).Perm (List.range n) ∧ St g cap w0 (P ++ List.range' c (n - c)) wr
def B2Rel (g cap n : Nat) (w0 : World) (f : Nat → Int) (s : Value) (wr : World) : Prop :=
  ∃ (k : Nat) (Z : List Nat), 0 < k ∧ k ≤ 2 * n + 20 ∧ s = .int .i64 (k : Int) ∧ Blks f k 0 Z ∧ Z.Perm (List.range n) ∧ St g cap w0 Z wr
def B3Rel (g cap n s : Nat) (w0 : World) (f : Nat → Int) (a b : Value) (wr : World) : Prop :=
  ∃ (c d : Nat) (P T : List Nat), P.length = c ∧ c + 2 * s = d ∧ a = .int .i64 (c : Int) ∧ b = .int .i64 (d : Int) ∧ Full f (2 * s) P ∧ Blks f s c T ∧ (P ++ T).Perm (List.range n) ∧ St g cap w0 (P ++ T) wr
theorem perm_lt {Z : List Nat} {n : Nat} (h : Z.Perm (List.range n)) : ∀ x ∈ Z, x < n := fun _ hx => List.mem_range.1 (h.mem_iff.1 hx)
theorem perm_len {Z : List Nat} {n : Nat} (h : Z.Perm (List.range n)) : Z.length = n := by rw [h.length_eq, List.length_range]
set_option maxRecDepth 100000 in
set_option maxHeartbeats 8000000 in
theorem stable_any {g cap n bx : Nat} {w0 w : World} {f : Nat → Int} (h : St g cap w0 (List.range n) w) (HC : CmpOk g bx n w0 f) (hbig : n ≤ 100000) :
    Calls Try.prog 45 #[.slice (some ⟨g, 0, none⟩) n cap, .int .i64 (n : Int), .func (.func 40) #[] #[.pointer (some ⟨bx, 0, none⟩)]] w fun e w' => e = .returned (.tuple #[]) ∧ ∃ Z, Z.Perm (List.range n) ∧ Z.Pairwise (Lex f) ∧ St g cap w0 Z w' := by
  have HC := Lib.hid HC
  have HS0 := Lib.hid (show B1Rel g cap n w0 f (.int .i64 0) (.int .i64 20) w from ⟨0, 20, [], rfl, rfl, Nat.zero_le _, rfl, rfl, .nil, by simp [List.range_eq_range'], by simpa [List.range_eq_range'] using h⟩)
  clear h
  go_enter Try.func45, Try.ntmps45
  go_wp2
  go_loopw [7, 8] (fun a b wr => B1Rel g cap n w0 f a b wr) (fun _ b _ => n + 20 - (intOf b).toNat)
  case atStart => exact HS0.out
  case round =>
    clear HS0
    obtain ⟨c, d, P, hPc, hcd, hcn, rfl, rfl, hF, hp, hS⟩ := hrel
    have HF := Lib.hid hF
    have HP := Lib.hid hp
    have HS := Lib.hid hS
    have HPC := Lib.hid hPc
    have HCD := Lib.hid hcd
    clear hF hp hS hPc hcd
    by_cases hlt : d ≤ n
    · have hcd := HCD.out
      have hrg : List.range' c (n - c) = List.range' c 20 ++ List.range' d (n - d) := by
        rw [← hcd, List.range'_append_1]; congr 1; omega
      have hpp := HP.out
      have hss := HS.out
      rw [hrg, ← List.append_assoc] at hpp hss
      have hins := insertion_any hss HC.out (List.pairwise_lt_range') (perm_lt hpp) (perm_len hpp) hbig HPC.out (b := d) (by rw [HPC.out, List.length_range']; exact hcd)
      have HINS := Lib.hid hins
      have HPP := Lib.hid hpp
      have i1 : (d : Int) ≤ (n : Int) := by omega
      have w1' : IntKind.i64.wrap ((d : Int) + 20) = ((d + 20 : Nat) : Int) := by rw [show (d : Int) + 20 = ((d + 20 : Nat) : Int) by omega]; exact IntWalk.i64_in _ (by omega)
      obtain ⟨d2, hd2⟩ : ∃ d2, d + 20 = d2 := ⟨_, rfl⟩
      rw [hd2] at w1'
      have HD2 := Lib.hid hd2
      clear hins hpp hss hrg hcd hd2
      go_wp2_with (go_at_call 57; refine HINS.out.mono ?_; rintro e w5 ⟨rfl, S, s1, s2, h5⟩)
      go_roundw
      case rel =>
        have hPc := HPC.out
        have hcd := HCD.out
        have hsl : S.length = 20 := by rw [s1.length_eq, List.length_range']
        refine ⟨d, d2, P ++ S, by rw [List.length_append]; omega, HD2.out, hlt, rfl, rfl, .snoc P S HF.out hsl (hPc.symm ▸ s1) s2, ?_, h5⟩
        have := HPP.out
        exact ((s1.append_left P).append_right _).trans this
      case measure => (have := HD2.out; simp [intOf]; omega)
    · have hcd := HCD.out
      have i1 : ¬ (d : Int) ≤ (n : Int) := by omega
      have hins := insertion_any (A := P) (S := List.range' c (n - c)) (B := []) (by simpa using HS.out) HC.out (List.pairwise_lt_range') (by simpa using perm_lt HP.out) (by simpa using perm_len HP.out) hbig HPC.out (b := n) (by rw [HPC.out, List.length_range']; omega)
      have HINS := Lib.hid hins
      clear hins hcd
      go_wp2_with (go_at_call 57; refine HINS.out.mono ?_; rintro e w5 ⟨rfl, S, s1, s2, h5⟩)
      have h6 : B2Rel g cap n w0 f (.int .i64 20) w5 := by
        have hPc := HPC.out
        have hcd := HCD.out
        have hsl : S.length = n - c := by rw [s1.length_eq, List.length_range']
        refine ⟨20, P ++ S, by omega, by omega, rfl, HF.out.blks S ?_, ?_, by simpa using h5⟩
        · rw [hPc]
          rcases Nat.eq_zero_or_pos S.length with h0 | h0
          · rw [List.eq_nil_of_length_eq_zero h0]; exact .nil _
          · exact .last _ _ h0 (by omega) (hsl.symm ▸ s1) s2
        · exact (s1.append_left P).trans HP.out
      have H6 := Lib.hid h6
      clear h6 h5 s1 s2 i1
      go_loopw [6] (fun s wr => B2Rel g cap n w0 f s wr) (fun s _ => n - (intOf s).toNat)
      case atStart => exact H6.out
      case round =>
        clear H6
        obtain ⟨s, Z, hs0, hsn, rfl, hB, hZ, hS⟩ := hrel
        have HZB := Lib.hid hB
        have HZP := Lib.hid hZ
        have HZS := Lib.hid hS
        clear hB hZ hS
        by_cases hlt2 : s < n
        · have i1 : (s : Int) < (n : Int) := by omega
          obtain ⟨s2, hs2⟩ : ∃ s2, 2 * s = s2 := ⟨_, rfl⟩
          have w1' : IntKind.i64.wrap (2 * (s : Int)) = (s2 : Int) := by rw [show 2 * (s : Int) = (s2 : Int) by omega]; exact IntWalk.i64_in _ (by omega)
          have w2' : IntKind.i64.wrap ((s : Int) * 2) = (s2 : Int) := by rw [show (s : Int) * 2 = (s2 : Int) by omega]; exact IntWalk.i64_in _ (by omega)
          have HS3 := Lib.hid (show B3Rel g cap n s w0 f (.int .i64 0) (.int .i64 (s2 : Int)) wr from ⟨0, s2, [], Z, rfl, by omega, rfl, rfl, .nil, HZB.out, HZP.out, HZS.out⟩)
          have HS2 := Lib.hid hs2
          clear hs2
          go_wp2
          go_loopw [7, 8] (fun a b wr => B3Rel g cap n s w0 f a b wr) (fun _ b _ => n + 1 - (intOf b).toNat)
          case atStart => exact HS3.out
          case round =>
            clear HS3
            obtain ⟨c, d, P, T, hPc, hcd, rfl, rfl, hF, hB, hp, hS⟩ := hrel
            have hlen := perm_len hp
            rw [List.length_append] at hlen
            have hs2 := HS2.out
            have HF3 := Lib.hid hF
            have HB3 := Lib.hid hB
            have HP3 := Lib.hid hp
            have HSt3 := Lib.hid hS
            obtain ⟨m, hm⟩ : ∃ m, c + s = m := ⟨_, rfl⟩
            have w3' : IntKind.i64.wrap ((c : Int) + (s : Int)) = (m : Int) := by rw [show (c : Int) + (s : Int) = (m : Int) by omega]; exact IntWalk.i64_in _ (by omega)
            have HI3 := Lib.hid (show P.length = c ∧ c + 2 * s = d ∧ P.length + T.length = n ∧ c + s = m from ⟨hPc, hcd, hlen, hm⟩)
            by_cases hdn : d ≤ n
            · obtain ⟨S1, S2, T', rfl, l1, l2, q1, q2, o1, o2, hB'⟩ := blks_two hs0 hB (by omega)
              have e1 : P ++ (S1 ++ S2 ++ T') = P ++ S1 ++ S2 ++ T' := by simp
              rw [e1] at hp hS
              have hsym := sym_any HC.out hbig n P S1 S2 T' wr c m d hS (by omega) (by omega) o1 o2 (range_cross q1 q2) (perm_lt hp) (perm_len hp) hPc (by omega) (by omega) (by have := perm_len hp; simp only [List.length_append] at this; omega)
              have HSYM := Lib.hid hsym
              have i2 : (d : Int) ≤ (n : Int) := by omega
              obtain ⟨d2, hd2⟩ : ∃ d2, d + s2 = d2 := ⟨_, rfl⟩
              have w4' : IntKind.i64.wrap ((d : Int) + (s2 : Int)) = (d2 : Int) := by rw [show (d : Int) + (s2 : Int) = (d2 : Int) by omega]; exact IntWalk.i64_in _ (by omega)
              have HQ := Lib.hid (show ∀ S, S.Perm (S1 ++ S2) → S.Pairwise (Lex f) → St g cap w0 (P ++ S ++ T') = St g cap w0 (P ++ S ++ T') ∧ Full f (2 * s) (P ++ S) ∧ (P ++ S ++ T').Perm (List.range n) ∧ (P ++ S).length = d ∧ Blks f s d T' ∧ d + 2 * s = d2 from fun S p1 p2 => by
                have hj := range_join q1 q2 p1
                have hsl : S.length = 2 * s := by rw [p1.length_eq, List.length_append]; omega
                refine ⟨rfl, .snoc P S hF hsl (by rw [hPc, show 2 * s = s + s by omega]; exact hj) p2, ?_, by rw [List.length_append]; omega, by rw [← hcd]; exact hB', by omega⟩
                refine List.Perm.trans ?_ hp
                rw [List.append_assoc P S1 S2]
                exact (p1.append_left P).append_right T')
              clear hsym e1 hp hS hB hB' q1 q2 o1 o2 l1 l2 hF hlen hs2 hm hPc hcd hd2
              go_wp2_with (go_at_call 58; refine HSYM.out.mono ?_; rintro e w5 ⟨rfl, S, p1, p2, h5⟩)
              go_roundw
              case rel =>
                obtain ⟨_, g1, g2, g3, g4, g5⟩ := HQ.out S p1 p2
                exact ⟨d, d2, P ++ S, T', g3, g5, rfl, rfl, g1, g4, g2, h5⟩
              case measure => (have h0 := HI3.out; have hq := HQ.out; have h2 := HS2.out; have h3 : d2 = d + s2 := by (have := (HQ.out S p1 p2).2.2.2.2.2; omega)
                               simp [intOf]; omega)
            · have i2 : ¬ (d : Int) ≤ (n : Int) := by omega
              rcases blks_rest hs0 hB (by omega) with ⟨ht, hB'⟩ | ⟨S1, S2, rfl, l1, l2, l3, q1, q2, o1, o2⟩
              · have i3 : ¬ (m : Int) < (n : Int) := by omega
                have hres : B2Rel g cap n w0 f (.int .i64 (s2 : Int)) wr := ⟨s2, P ++ T, by omega, by omega, rfl, by rw [← hs2]; exact hF.blks T (by rw [hPc]; exact hB'), hp, hS⟩
                have HRES := Lib.hid hres
                clear hres hp hS hB hB' hF hlen hs2 hm hPc hcd
                go_wp2
                go_roundw
                case rel => exact HRES.out
                case measure => (have h2 := HS2.out; simp [intOf]; omega)
              · have i3 : (m : Int) < (n : Int) := by rw [List.length_append] at hlen; omega
                have e1 : P ++ (S1 ++ S2) = P ++ S1 ++ S2 ++ [] := by simp
                rw [e1] at hp hS
                have hsym := sym_any HC.out hbig n P S1 S2 [] wr c m n hS (by omega) (by omega) o1 o2 (range_cross q1 q2) (perm_lt hp) (perm_len hp) hPc (by omega) (by rw [List.length_append] at hlen; omega) (by have := perm_len hp; simp only [List.length_append] at this; omega)
                have HSYM := Lib.hid hsym
                have HQ := Lib.hid (show ∀ S wz, S.Perm (S1 ++ S2) → S.Pairwise (Lex f) → St g cap w0 (P ++ S ++ []) wz → B2Rel g cap n w0 f (.int .i64 (s2 : Int)) wz from fun S wz p1 p2 h5 => by
                  have hj := range_join q1 q2 p1
                  have hsl : S.length = s + S2.length := by rw [p1.length_eq, List.length_append]; omega
                  refine ⟨s2, P ++ S, by omega, by omega, rfl, ?_, ?_, by simpa using h5⟩
                  · rw [← hs2]
                    exact hF.blks S (by rw [hPc]; exact .last _ _ (by omega) (by omega) (by rw [hsl]; exact hj) p2)
                  · refine List.Perm.trans ?_ hp
                    rw [List.append_nil, List.append_assoc P S1 S2]
                    exact p1.append_left P)
                clear hsym e1 hp hS hB q1 q2 o1 o2 l1 l2 l3 hF hlen hs2 hm hPc hcd
                go_wp2_with (go_at_call 58; refine HSYM.out.mono ?_; rintro e w5 ⟨rfl, S, p1, p2, h5⟩)
                go_roundw
                case rel => exact HQ.out S _ p1 p2 h5
                case measure => (have h2 := HS2.out; simp [intOf]; omega)
        · have i1 : ¬ (s : Int) < (n : Int) := by omega
          go_wp2
          go_end0
          exact ⟨rfl, Z, HZP.out, blks_whole HZB.out (by rw [perm_len HZP.out]; omega), HZS.out⟩
end Go.Proofs.Ytjlghmjngiegaaa
