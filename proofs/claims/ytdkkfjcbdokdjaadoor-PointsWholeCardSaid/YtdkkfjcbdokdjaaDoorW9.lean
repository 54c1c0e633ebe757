/- The walk of the document's putting. -/
import Derived.Test.YtdkkfjcbdokdjaaDoorW8
namespace Go.Proofs.YtdkkfjcbdokdjaaDoor
open Go.RowKit
theorem rd_take {w : World} {B n c k : Nat} {A : Option Addr} {xs : List Value} (h : Rd w B 1 (.slice A n c) n xs) (hk : k ≤ n) : Rd w B 1 (.slice A k c) k (xs.take k) := by
  obtain ⟨_, hc, hm⟩ := h.len
  have h0 := h.1
  refine ⟨by rw [List.length_take]; omega, A, c, rfl, by omega, hm, fun hn => ?_⟩
  obtain ⟨b, o, e, hb, hcell⟩ := h.cells (by omega)
  refine ⟨b, o, e, hb, fun j u hu => hcell j u ?_⟩
  rw [List.getElem?_take] at hu
  split at hu
  · exact hu
  · cases hu
theorem join_quiet {A : Option Addr} {n c : Nat} {ls : List (List UInt8)} {B : Nat} {w : World} (h : Rd w B 1 (.slice A n c) n (ls.map str)) (hl : ls.flatten.length ≤ 1000000000) (q : Nat) :
    Calls Tryd.prog 31 #[.slice A n c] (w.drewN q) fun e w'' => e = .returned (.string (ofL ls.flatten)) ∧ ∃ m, w'' = w.drewN m :=
  (join_any A n c ls B (w.drewN q) (h.keep fun _ _ => rfl) hl).mono fun _ _ ⟨he, hw⟩ => ⟨he, q, hw.symm⟩
set_option maxHeartbeats 400000 in
theorem rput_in (ps qs : List (List UInt8)) (hps : AllP ps) (hqs : AllP qs) (i : Nat) (hi : i ≤ ps.length) (w : World) (hl : ps.flatten.length ≤ 1000000) (hl2 : qs.flatten.length ≤ 1000000) :
    Calls Tryd.prog 24 #[.string (ofL ps.flatten), .int .i64 (i : Int), .string (ofL qs.flatten)] w fun e w' => e = .returned (.tuple #[str (ps.take i ++ qs ++ ps.drop i).flatten, .int .i64 0]) ∧ Below w.heap.size w w' := by
  have CS := Lib.hid (fun w => rsplit_valid ps hps w (by omega))
  have CS2 := Lib.hid (fun w => rsplit_valid qs hqs w (by omega))
  have hpl := length_le_flatten ps hps
  have hR : (ps.take i ++ qs ++ ps.drop i).flatten = ((ps.take i).flatten ++ qs.flatten) ++ (ps.drop i).flatten := by simp
  have hap := ofL_append (ps.take i).flatten qs.flatten
  have hap2 := ofL_append ((ps.take i).flatten ++ qs.flatten) (ps.drop i).flatten
  rw [← hap, ← hR] at hap2
  have hpi := flatten_take_le ps i
  have e2 : ps.flatten.length = (ps.take i).flatten.length + (ps.drop i).flatten.length := by rw [← List.length_append, ← List.flatten_append, List.take_append_drop]
  have hsz2 := ofL_size qs.flatten
  have hsa := ofL_size (ps.take i).flatten
  have hsb := ofL_size (ps.drop i).flatten
  have b1 : (ofL (ps.take i).flatten).size ≤ 1000000 := by omega
  have b2 : (ofL (ps.drop i).flatten).size ≤ 1000000 := by omega
  have b3 : (ofL qs.flatten).size ≤ 1000000 := by omega
  have b6 : (ofL (ps.take i).flatten ++ ofL qs.flatten).size ≤ 2000000 := by rw [ByteArray.size_append]; omega
  have b7 : (ofL (ps.take i).flatten).size + (ofL qs.flatten).size ≤ 2000000 := by omega
  have b8 : (ofL (ps.take i).flatten).size + (ofL qs.flatten).size + (ofL (ps.drop i).flatten).size ≤ 3000000 := by omega
  have HAP := Lib.hid hap2
  clear hap hap2 hR hsz2 hsa hsb
  go_enter Tryd.func24, Tryd.ntmps24
  go_wp2_with fail
  refine (CS.out _).mono ?_
  rintro e w1 ⟨v, rfl, ho, hb1⟩
  have hrd := Rd.of_own ho
  obtain ⟨A, c, rfl, hc1, hc2⟩ := hrd.form
  unfold maxLen at hc2
  have HR := Lib.hid hrd
  have hkn : ¬ (ps.length : Int) < (i : Int) := by omega
  clear ho hrd
  go_wp2_with fail
  refine (CS2.out _).mono ?_
  rintro e w2 ⟨v2, rfl, ho2, hb2⟩
  have hrd2 := HR.out.below hb2
  have r1 := rd_take hrd2 hi
  rw [← List.map_take] at r1
  have R1 := Lib.hid r1
  have l1 : (ps.take i).flatten.length ≤ 1000000000 := by omega
  have l2 : (ps.drop i).flatten.length ≤ 1000000000 := by omega
  have hni : i + (ps.length - i) = ps.length := by omega
  have hdr : (ps.map str).drop i = (ps.drop i).map str := by rw [List.map_drop]
  have hlt : ((ps.map str).drop i).take (ps.length - i) = (ps.drop i).map str := by rw [hdr, List.take_of_length_le (by simp)]
  clear r1
  obtain ⟨sa, hsa⟩ : ∃ sa, ofL (ps.take i).flatten = sa := ⟨_, rfl⟩
  obtain ⟨sb, hsb⟩ : ∃ sb, ofL (ps.drop i).flatten = sb := ⟨_, rfl⟩
  obtain ⟨t, ht⟩ : ∃ t, ofL qs.flatten = t := ⟨_, rfl⟩
  have J1 : ∀ q, Calls Tryd.prog 31 #[.slice A i c] (w2.drewN q) fun e w'' => e = .returned (.string sa) ∧ ∃ m, w'' = w2.drewN m := fun q => by rw [← hsa]; exact join_quiet R1.out l1 q
  rw [hsa, hsb, ht] at HAP
  rw [hsa] at b1 b6 b7 b8
  rw [hsb] at b2 b8
  rw [ht] at b3 b6 b7 b8 CS2 ⊢
  by_cases hci : c = i
  · have r2 := rd_sub_end hrd2 hi (Nat.le_refl _) hci 0 (Nat.zero_le _)
    rw [hlt, show ps.length - i = 0 by omega] at r2
    have J2 : ∀ q, Calls Tryd.prog 31 #[.slice A 0 0] (w2.drewN q) fun e w'' => e = .returned (.string sb) ∧ ∃ m, w'' = w2.drewN m := fun q => by rw [← hsb]; exact join_quiet r2 l2 q
    have HJ1 := Lib.hid J1
    have HJ2 := Lib.hid J2
    clear r2 hlt hdr hni hrd2 HR R1 J1 J2 hsa hsb ht l1 l2 e2 hpi
    subst hci
    go_wp2
    have n1 : ¬ (9223372036854775807 < sa.size + t.size) := by omega
    have n2 : ¬ (9223372036854775807 < sa.size + t.size + sb.size) := by omega
    go_quiet ((first | (go_at_call 31; with_reducible exact HJ1.out _) | (go_at_call 31; with_reducible exact HJ2.out _)))
    go_wp2
    go_ret2
    exact ⟨ret_str2 HAP.out, below_drewN (hb1.trans (hb2.mono hb1.size)) _⟩
  · have r2 := rd_sub hrd2 hi (Nat.le_refl _)
    rw [hlt] at r2
    have J2 : ∀ q, Calls Tryd.prog 31 #[.slice (A.map (fun x => x.add i)) (ps.length - i) (c - i)] (w2.drewN q) fun e w'' => e = .returned (.string sb) ∧ ∃ m, w'' = w2.drewN m := fun q => by rw [← hsb]; exact join_quiet r2 l2 q
    have hic : i ≤ c := by omega
    have HJ1 := Lib.hid J1
    have HJ2 := Lib.hid J2
    clear r2 hlt hdr hni hrd2 HR R1 J1 J2 hsa hsb ht l1 l2 e2 hpi
    go_wp2
    have n1 : ¬ (9223372036854775807 < sa.size + t.size) := by omega
    have n2 : ¬ (9223372036854775807 < sa.size + t.size + sb.size) := by omega
    go_quiet ((first | (go_at_call 31; with_reducible exact HJ1.out _) | (go_at_call 31; with_reducible exact HJ2.out _)))
    go_wp2
    go_ret2
    exact ⟨ret_str2 HAP.out, below_drewN (hb1.trans (hb2.mono hb1.size)) _⟩
set_option maxHeartbeats 400000 in
theorem rput_out (ps qs : List (List UInt8)) (hps : AllP ps) (hqs : AllP qs) (a : Int) (ha : ¬ (0 ≤ a ∧ a ≤ ps.length)) (w : World) (hl : ps.flatten.length ≤ 1000000) (hl2 : qs.flatten.length ≤ 1000000)
    (ha1 : -9223372036854775808 ≤ a) (ha2 : a ≤ 9223372036854775807) :
    Calls Tryd.prog 24 #[.string (ofL ps.flatten), .int .i64 a, .string (ofL qs.flatten)] w fun e w' => e = .returned (.tuple #[.string ⟨#[]⟩, .int .i64 100]) ∧ Below w.heap.size w w' := by
  have CS := Lib.hid (fun w => rsplit_valid ps hps w (by omega))
  have CS2 := Lib.hid (fun w => rsplit_valid qs hqs w (by omega))
  have hpl := length_le_flatten ps hps
  by_cases h1 : a < 0
  all_goals try have h3 : (ps.length : Int) < a := by omega
  all_goals
    clear ha
    go_enter Tryd.func24, Tryd.ntmps24
    go_wp2_with fail
    refine (CS.out _).mono ?_
    rintro e w1 ⟨v, rfl, ho, hb1⟩
    obtain ⟨A, c, rfl, hc1, hc2⟩ := (Rd.of_own ho).form
    unfold maxLen at hc2
    clear ho
    go_wp2_with fail
    refine (CS2.out _).mono ?_
    rintro e w2 ⟨v2, rfl, ho2, hb2⟩
    clear ho2
    go_wp2
    go_ret2
    exact ⟨rfl, hb1.trans (hb2.mono hb1.size)⟩
set_option maxHeartbeats 400000 in
theorem rput_bad1 (l m : List UInt8) (hv : Lib.validD l = false) (a : Int) (w : World) (hl : l.length ≤ 1000000) :
    Calls Tryd.prog 24 #[.string (ofL l), .int .i64 a, .string (ofL m)] w fun e w' => e = .returned (.tuple #[.string ⟨#[]⟩, .int .i64 60]) ∧ Below w.heap.size w w' := by
  have CS := Lib.hid (fun w => rsplit_bad l hv w (by omega))
  clear hv
  go_enter Tryd.func24, Tryd.ntmps24
  go_wp2_with fail
  refine (CS.out _).mono ?_
  rintro e w1 ⟨rfl, hb1⟩
  go_wp2
  go_ret2
  exact ⟨rfl, hb1⟩
set_option maxHeartbeats 400000 in
theorem rput_bad2 (ps : List (List UInt8)) (hps : AllP ps) (m : List UInt8) (hv : Lib.validD m = false) (a : Int) (w : World) (hl : ps.flatten.length ≤ 1000000) (hm : m.length ≤ 1000000) :
    Calls Tryd.prog 24 #[.string (ofL ps.flatten), .int .i64 a, .string (ofL m)] w fun e w' => e = .returned (.tuple #[.string ⟨#[]⟩, .int .i64 60]) ∧ Below w.heap.size w w' := by
  have CS := Lib.hid (fun w => rsplit_valid ps hps w (by omega))
  have CS2 := Lib.hid (fun w => rsplit_bad m hv w (by omega))
  clear hv
  go_enter Tryd.func24, Tryd.ntmps24
  go_wp2_with fail
  refine (CS.out _).mono ?_
  rintro e w1 ⟨v, rfl, ho, hb1⟩
  obtain ⟨A, c, rfl, hc1, hc2⟩ := (Rd.of_own ho).form
  clear ho
  go_wp2_with fail
  refine (CS2.out _).mono ?_
  rintro e w2 ⟨rfl, hb2⟩
  go_wp2
  go_ret2
  exact ⟨rfl, hb1.trans (hb2.mono hb1.size)⟩
end Go.Proofs.YtdkkfjcbdokdjaaDoor
