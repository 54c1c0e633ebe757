/- The walk of replacing, the document's. -/
import Derived.Test.YtdkkfjcbdokdjaaDoorW16
import Derived.Test.YtdkkfjcbdokdjaaDoorW17
namespace Go.Proofs.YtdkkfjcbdokdjaaDoor
open Go.RowKit
set_option maxHeartbeats 400000 in
theorem rfind_bad (l name : Bs) (hv : Lib.validD l = false) (w : World) (hl : l.length ≤ 1000000) :
    Calls Tryd.prog 16 #[.string (ofL l), .string (ofL name)] w fun e w' => e = .returned (.tuple #[.slice none 0 0, .int .i64 60]) ∧ Below w.heap.size w w' := by
  have CS := Lib.hid (fun w => rsplit_bad l hv w (by omega))
  clear hv
  go_enter Tryd.func16, Tryd.ntmps16
  go_wp2_with fail
  refine (CS.out _).mono ?_
  rintro e w1 ⟨rfl, hb1⟩
  go_wp2
  go_ret2
  exact ⟨rfl, hb1⟩
set_option maxHeartbeats 400000 in
theorem rfind_no (ps : List Bs) (hps : AllP ps) (name : Bs) (hid : identL name = false) (w : World) (hl : ps.flatten.length ≤ 1000000) (hn : name.length ≤ 1000000) :
    Calls Tryd.prog 16 #[.string (ofL ps.flatten), .string (ofL name)] w fun e w' => e = .returned (.tuple #[.slice none 0 0, .int .i64 61]) ∧ Below w.heap.size w w' := by
  have CS := Lib.hid (fun w => rsplit_valid ps hps w (by omega))
  have cI := fun w => rident_any name w hn
  rw [hid] at cI
  have CI := Lib.hid cI
  clear cI hid
  go_enter Tryd.func16, Tryd.ntmps16
  go_wp2_with fail
  refine (CS.out _).mono ?_
  rintro e w1 ⟨v, rfl, ho, hb1⟩
  obtain ⟨A, c, rfl, hc1, hc2⟩ := (Rd.of_own ho).form
  clear ho
  go_wp2_with fail
  refine (CI.out _).mono ?_
  rintro e w2 ⟨rfl, rfl⟩
  go_wp2
  go_ret2
  exact ⟨rfl, hb1⟩
set_option maxHeartbeats 400000 in
theorem rreplace_err (l name by_ : Bs) (x : Int) (hx : x = 60 ∨ x = 61) (w : World)
    (h : Calls Tryd.prog 16 #[.string (ofL l), .string (ofL name)] w fun e w' => e = .returned (.tuple #[.slice none 0 0, .int .i64 x]) ∧ Below w.heap.size w w') :
    Calls Tryd.prog 20 #[.string (ofL l), .string (ofL name), .string (ofL by_)] w fun e w' => e = .returned (.tuple #[.string ⟨#[]⟩, .int .i64 0, .int .i64 x]) ∧ Below w.heap.size w w' := by
  have H := Lib.hid h
  clear h
  rcases hx with rfl | rfl
  all_goals
    go_enter Tryd.func20, Tryd.ntmps20
    go_wp2_with fail
    refine (H.out).mono ?_
    rintro e w1 ⟨rfl, hb1⟩
    go_wp2
    go_ret3
    exact ⟨rfl, hb1⟩
theorem rreplace_bad (l name by_ : Bs) (hv : Lib.validD l = false) (w : World) (hl : l.length ≤ 1000000) :
    Calls Tryd.prog 20 #[.string (ofL l), .string (ofL name), .string (ofL by_)] w fun e w' => e = .returned (.tuple #[.string ⟨#[]⟩, .int .i64 0, .int .i64 60]) ∧ Below w.heap.size w w' :=
  rreplace_err l name by_ 60 (.inl rfl) w (rfind_bad l name hv w hl)
theorem rreplace_no (ps : List Bs) (hps : AllP ps) (name by_ : Bs) (hid : identL name = false) (w : World) (hl : ps.flatten.length ≤ 1000000) (hn : name.length ≤ 1000000) :
    Calls Tryd.prog 20 #[.string (ofL ps.flatten), .string (ofL name), .string (ofL by_)] w fun e w' => e = .returned (.tuple #[.string ⟨#[]⟩, .int .i64 0, .int .i64 61]) ∧ Below w.heap.size w w' :=
  rreplace_err ps.flatten name by_ 61 (.inr rfl) w (rfind_no ps hps name hid w hl hn)
set_option maxHeartbeats 400000 in
theorem rreplace_noby (ps : List Bs) (hps : AllP ps) (name by_ : Bs) (hid : identL name = true) (hby : identL by_ = false) (w : World) (hl : ps.flatten.length ≤ 1000000) (hn : name.length ≤ 1000000) (hb : by_.length ≤ 1000000) :
    Calls Tryd.prog 20 #[.string (ofL ps.flatten), .string (ofL name), .string (ofL by_)] w fun e w' => e = .returned (.tuple #[.string ⟨#[]⟩, .int .i64 0, .int .i64 61]) ∧ Below w.heap.size w w' := by
  have CF := Lib.hid (rfind_ok ps hps name hid w hl hn)
  have cI := fun w => rident_any by_ w (by omega)
  rw [hby] at cI
  have CI := Lib.hid cI
  clear cI hby hid
  go_enter Tryd.func20, Tryd.ntmps20
  go_wp2_with fail
  refine (CF.out).mono ?_
  rintro e w1 ⟨v, rfl, ho, hb1⟩
  obtain ⟨A, c, rfl, hc1, hc2⟩ := (Rd.of_own ho).form
  clear ho CF
  go_wp2_with fail
  refine (CI.out _).mono ?_
  rintro e w2 ⟨rfl, rfl⟩
  go_wp2
  go_ret3
  exact ⟨rfl, hb1⟩
set_option maxHeartbeats 2000000 in
theorem rreplace_ok (ps : List Bs) (hps : AllP ps) (name by_ : Bs) (hid : identL name = true) (hby : identL by_ = true) (w : World) (hl : ps.flatten.length ≤ 10000) (hn : name.length ≤ 10000) (hb : by_.length ≤ 10000) :
    Calls Tryd.prog 20 #[.string (ofL ps.flatten), .string (ofL name), .string (ofL by_)] w fun e w' => e = .returned (.tuple #[str (replTo ps by_ (findOf ps name) 0), .int .i64 (findOf ps name).length, .int .i64 0]) ∧ Below w.heap.size w w' := by
  have CF := Lib.hid (rfind_ok ps hps name hid w (by omega) (by omega))
  have cI := fun w => rident_any by_ w (by omega)
  rw [hby] at cI
  have CI := Lib.hid cI
  have CS := Lib.hid (fun w => rsplit_valid ps hps w (by omega))
  clear cI
  have hri := (runs_rising ps).filter (fun r => word ps r == name)
  have hrl := rising_len hri (Nat.zero_le _)
  have hpl := length_le_flatten ps hps
  have hb1 : (findOf ps name).length ≤ 10000 := by unfold findOf; omega
  have hri : Rising 0 ps.length (findOf ps name) := hri
  obtain ⟨L, hL⟩ : ∃ L, findOf ps name = L := ⟨_, rfl⟩
  rw [hL] at CF hb1 hri ⊢
  have HRI := Lib.hid hri
  have hrt := replTo_eq ps by_ L 0
  obtain ⟨R, hR⟩ : ∃ R, replTo ps by_ L 0 = R := ⟨_, rfl⟩
  rw [hR] at hrt ⊢
  have HRT := Lib.hid hrt
  clear hrl hid hL hri hby hrt hR
  go_enter Tryd.func20, Tryd.ntmps20
  go_wp2_with fail
  refine (CF.out).mono ?_
  rintro e w1 ⟨v, rfl, ho, hb1⟩
  obtain ⟨A, c, rfl, hc1, hc2⟩ := (Rd.of_own ho).form
  unfold maxLen at hc2
  have HO := Lib.hid ho
  clear ho CF
  go_wp2_with fail
  refine (CI.out _).mono ?_
  rintro e w2 ⟨rfl, rfl⟩
  go_wp2_with fail
  refine (CS.out _).mono ?_
  rintro e w2 ⟨v2, rfl, ho2, hb2⟩
  obtain ⟨A2, d, rfl, hd1, hd2⟩ := (Rd.of_own ho2).form
  unfold maxLen at hd2
  have HL := Lib.hid (Rd.of_own (own_below HO.out hb2))
  have HP := Lib.hid (Rd.of_own ho2)
  have hbw := hb1.trans (hb2.mono hb1.size)
  clear HO ho2 hb1 hb2 CI CS
  go_wp2
  go_loop [13, 14, 15] (fun vt va vi => ∃ k : Nat, k ≤ L.length ∧ vi = .int .i64 (k : Nat) ∧ va = .int .i64 (lastTo (L.take k) 0 : Nat) ∧ vt = .string (ofL (replPre ps by_ (L.take k) 0))) (fun _ _ vi => L.length - (intOf vi).toNat)
  case atStart => exact ⟨0, Nat.zero_le _, rfl, rfl, rfl⟩
  case round =>
    obtain ⟨k, hk, rfl, rfl, rfl⟩ := hrel
    have hpre := replPre_len ps by_ (L.take k) 0
    have hpre2 : (replPre ps by_ (L.take k) 0).length ≤ 1000000000 := by
      have h1 : (L.take k).length ≤ 10000 := by rw [List.length_take]; omega
      have h2 := Nat.mul_le_mul h1 (show ps.flatten.length + by_.length ≤ 20000 by omega)
      omega
    by_cases hlt : k < L.length
    · obtain ⟨g, o, rfl, _, hc⟩ := HL.out.cells (by omega)
      have hg := cells2_get L k hlt
      have d0 := hc _ _ hg.1
      have d1 := hc _ _ hg.2
      rw [← Nat.add_assoc] at d1
      have htk := List.take_succ_eq_append_getElem hlt
      have hsp : L = L.take k ++ L[k] :: L.drop (k + 1) := by rw [← List.drop_eq_getElem_cons hlt, List.take_append_drop]
      have hlr : lastTo (L.take k) 0 ≤ L[k].1 := lastTo_rising (m := L.drop (k + 1)) (by rw [← hsp]; exact HRI.out)
      obtain ⟨q1, q2, q3⟩ := HRI.out.mem _ (List.getElem_mem hlt)
      have hps1 := replPre_snoc ps by_ (L.take k) L[k] 0
      have hls1 := lastTo_snoc (L.take k) L[k] 0
      rw [← htk] at hps1 hls1
      obtain ⟨r, hrr⟩ : ∃ r, L[k] = r := ⟨_, rfl⟩
      rw [hrr] at d0 d1 htk hlr q1 q2 q3 hps1 hls1
      obtain ⟨a0, haa⟩ : ∃ a0, lastTo (L.take k) 0 = a0 := ⟨_, rfl⟩
      rw [haa] at hlr hps1 ⊢
      have hda : ¬ d = a0 := by omega
      have rds := rd_sub (i := a0) (k := r.1) HP.out hlr (by omega)
      rw [← List.map_drop, ← List.map_take] at rds
      have hpl2 := part_len ps a0 (r.1 - a0)
      have cj : Calls Tryd.prog 31 #[.slice (A2.map (fun x => x.add a0)) (r.1 - a0) (d - a0)] w2 fun e w' => e = .returned (.string (ofL ((ps.drop a0).take (r.1 - a0)).flatten)) ∧ w2 = w' := join_any _ _ _ _ _ w2 rds (by omega)
      obtain ⟨pt, hpt⟩ : ∃ pt, ((ps.drop a0).take (r.1 - a0)).flatten = pt := ⟨_, rfl⟩
      rw [hpt] at hps1 hpl2 cj
      obtain ⟨pre, hpp⟩ : ∃ pre, replPre ps by_ (L.take k) 0 = pre := ⟨_, rfl⟩
      rw [hpp] at hpre2 hps1 ⊢
      have hap := ofL_append pre pt
      have hap2 := ofL_append (pre ++ pt) by_
      rw [← hap] at hap2
      have hsx := ofL_size pre
      have hsy := ofL_size pt
      have hsz := ofL_size by_
      have m1 : (ofL pre).size + (ofL pt).size ≤ 2000000000 := by omega
      have m2 : (ofL pre).size + (ofL pt).size + (ofL by_).size ≤ 2000000000 := by omega
      have HAP2 := Lib.hid hap2
      have CJ := Lib.hid cj
      have HPS1 := Lib.hid hps1
      have HLS1 := Lib.hid hls1
      clear hc hg htk hsp hrr hps1 hls1 haa rds hpt hpp hap hap2 hsx hsy hsz cj hpre hpl2
      go_wp2_with (go_at_call 31; with_reducible refine (CJ.out).mono ?_; rintro e w' ⟨rfl, rfl⟩)
      go_round
      case rel => exact ⟨k + 1, by omega, by go_num, by rw [HLS1.out], by rw [HPS1.out, HAP2.out, List.append_assoc]⟩
      case measure => simp [intOf]; omega
    · have e1 : L.take k = L := List.take_of_length_le (by omega)
      rw [e1] at hpre2 ⊢
      have hla := lastTo_le HRI.out (Nat.zero_le _)
      obtain ⟨a0, haa⟩ : ∃ a0, lastTo L 0 = a0 := ⟨_, rfl⟩
      have hdl := drop_len ps a0
      have hap := ofL_append (replPre ps by_ L 0) (ps.drop a0).flatten
      have hrt := HRT.out
      rw [haa] at hla hrt ⊢
      rw [← hrt] at hap
      have hlt2 : ((ps.map str).drop a0).take (ps.length - a0) = (ps.drop a0).map str := by rw [List.map_drop, List.take_of_length_le (by simp)]
      obtain ⟨dr, hdr⟩ : ∃ dr, (ps.drop a0).flatten = dr := ⟨_, rfl⟩
      obtain ⟨pre, hpp⟩ : ∃ pre, replPre ps by_ L 0 = pre := ⟨_, rfl⟩
      rw [hdr] at hap hdl
      rw [hpp] at hap hpre2 ⊢
      have hs1 := ofL_size pre
      have hs2 := ofL_size dr
      have m1 : (ofL pre).size + (ofL dr).size ≤ 2000000000 := by omega
      have HAP := Lib.hid hap
      by_cases hda : d = a0
      · have hz : ps.length - a0 = 0 := by omega
        have rds := rd_sub_end HP.out hla (Nat.le_refl _) hda 0 (Nat.zero_le _)
        rw [hlt2, hz] at rds
        have cj : Calls Tryd.prog 31 #[.slice A2 0 0] w2 fun e w' => e = .returned (.string (ofL dr)) ∧ w2 = w' := by rw [← hdr]; exact join_any _ _ _ _ _ w2 rds (by rw [hdr]; omega)
        have CJ := Lib.hid cj
        clear e1 haa hrt hap hlt2 hdr hpp hs1 hs2 hdl hpre hpre2 rds cj hz
        subst hda
        have hle : d ≤ ps.length := by omega
        go_wp2_with (go_at_call 31; with_reducible refine (CJ.out).mono ?_; rintro e w' ⟨rfl, rfl⟩)
        go_ret3
        exact ⟨ret_str3 HAP.out, hbw⟩
      · have rds := rd_sub HP.out hla (Nat.le_refl _)
        rw [hlt2] at rds
        have cj : Calls Tryd.prog 31 #[.slice (A2.map (fun x => x.add a0)) (ps.length - a0) (d - a0)] w2 fun e w' => e = .returned (.string (ofL dr)) ∧ w2 = w' := by rw [← hdr]; exact join_any _ _ _ _ _ w2 rds (by rw [hdr]; omega)
        have CJ := Lib.hid cj
        clear e1 haa hrt hap hlt2 hdr hpp hs1 hs2 hdl hpre hpre2 rds cj
        go_wp2_with (go_at_call 31; with_reducible refine (CJ.out).mono ?_; rintro e w' ⟨rfl, rfl⟩)
        go_ret3
        exact ⟨ret_str3 HAP.out, hbw⟩
end Go.Proofs.YtdkkfjcbdokdjaaDoor
