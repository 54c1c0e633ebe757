/- The walk of where a name is, the document's. -/
import Derived.Test.YtdkkfjcbdokdjaaDoorM5
import Derived.Test.YtdkkfjcbdokdjaaDoorW9
import Derived.Test.YtdkkfjcbdokdjaaDoorW11
import Derived.Test.YtdkkfjcbdokdjaaDoorW13
import Derived.Test.YtdkkfjcbdokdjaaDoorM2
namespace Go.Proofs.YtdkkfjcbdokdjaaDoor
open Go.RowKit
theorem infoSpan : (Tryd.prog.info? 38).map (fun i => (i.zero, i.size, i.bytes)) = some (some (.agg #[.int .i64 0, .int .i64 0]), 2, 16) := by kernel_rfl
/-- whether a piece is a part: by its bytes, as the document asks, and by its code point, as the program does -/
theorem partS_piece {p : Bs} (h : isP p) : partS (ofL p) = partP p := by
  obtain ⟨_, _, h3⟩ := piece_rune h
  unfold partP
  rcases h3 with ⟨h4, b, rfl, hb⟩ | ⟨h4, h5⟩
  · rw [partS_byte]
    unfold partU
    rw [hb]
  · rw [partS_no (by rw [ofL_size]; omega), part_high (by omega)]
theorem rpart_piece {p : Bs} (h : isP p) (w : World) : Calls Tryd.prog 30 #[.string (ofL p)] w fun e w' => e = .returned (.bool (partP p)) ∧ w = w' := by
  have := rpart_any (ofL p) w (by rw [ofL_size]; have := h.four; omega)
  rwa [partS_piece h] at this
def cell2 (r : Nat × Nat) : List Value := [.int .i64 (r.1 : Nat), .int .i64 (r.2 : Nat)]
def cells2 (l : List (Nat × Nat)) : List Value := l.flatMap cell2
theorem cells2_append (a b : List (Nat × Nat)) : cells2 (a ++ b) = cells2 a ++ cells2 b := List.flatMap_append
theorem cells2_one (r : Nat × Nat) : cells2 [r] = cell2 r := by simp [cells2]
theorem cells2_oneCell (l : List (Nat × Nat)) : ∀ u ∈ cells2 l, u.oneCell' = true := by
  intro u hu
  obtain ⟨r, _, h⟩ := List.mem_flatMap.1 hu
  simp only [cell2, List.mem_cons, List.mem_nil_iff, or_false] at h
  rcases h with rfl | rfl <;> rfl
theorem cells2_length (l : List (Nat × Nat)) : (cells2 l).length = l.length * 2 := by
  induction l with
  | nil => rfl
  | cons r l ih =>
    show (cell2 r ++ cells2 l).length = _
    rw [List.length_append, ih, List.length_cons]
    show 2 + _ = _
    omega
theorem cells2_get (l : List (Nat × Nat)) (k : Nat) (h : k < l.length) : (cells2 l)[k * 2]? = some (.int .i64 (l[k].1 : Nat)) ∧ (cells2 l)[k * 2 + 1]? = some (.int .i64 (l[k].2 : Nat)) := by
  have e : l = l.take k ++ (l[k] :: l.drop (k + 1)) := by rw [← List.drop_eq_getElem_cons h, List.take_append_drop]
  have hl : (cells2 (l.take k)).length = k * 2 := by rw [cells2_length, List.length_take]; omega
  have ec : cells2 l = cells2 (l.take k) ++ (cell2 l[k] ++ cells2 (l.drop (k + 1))) := by
    conv => lhs; rw [e]
    rw [cells2_append]
    rfl
  have g : ∀ j, j < 2 → (cells2 l)[k * 2 + j]? = (cell2 l[k])[j]? := by
    intro j hj
    rw [ec, List.getElem?_append_right (by omega), hl, Nat.add_sub_cancel_left, List.getElem?_append_left (by simpa [cell2] using hj)]
  exact ⟨g 0 (by omega), g 1 (by omega)⟩
theorem tw_spec (l : List Bs) : (∀ j (h : j < l.length), j < tw l → partP l[j] = true) ∧ (∀ h : tw l < l.length, partP (l[tw l]) = false) := by
  induction l with
  | nil => exact ⟨fun j h => absurd h (by simp), fun h => absurd h (by simp)⟩
  | cons p l ih =>
    rw [tw_cons]
    by_cases hp : partP p = true
    · rw [if_pos hp]
      refine ⟨fun j h hj => ?_, fun h => ?_⟩
      · cases j with
        | zero => exact hp
        | succ j => exact ih.1 j (by simpa using h) (by omega)
      · exact ih.2 (by simpa using h)
    · rw [if_neg hp]
      exact ⟨fun j h hj => absurd hj (by omega), fun h => by simpa using hp⟩
theorem own_types2 {w : World} {B B' : Nat} {sz sz' n n' : Nat} {v u : Value} {xs ys : List Value} (h : w.ownsRow B 9 sz v n xs) (k : w.ownsRow B' 38 sz' u n' ys) : v.ownBlock = none ∨ v.ownBlock ≠ u.ownBlock := by
  rcases h.2 with ⟨rfl, _⟩ | ⟨g, cap, cur, rfl, _, hg, _⟩
  · exact .inl rfl
  · refine .inr ?_
    rcases k.2 with ⟨rfl, _⟩ | ⟨g', cap', cur', rfl, _, hg', _⟩
    · simp [Value.ownBlock]
    · intro e
      have : g = g' := by simpa [Value.ownBlock] using e
      subst this
      rw [hg] at hg'
      injection hg' with h1
      injection h1 with _ h2
      exact absurd h2 (by decide)
def RFindRel (ps : List Bs) (name : Bs) (w : World) (vl : Value) (vi vo : Value) (wr : World) : Prop :=
  ∃ (i : Nat) (R : List (Nat × Nat)), i ≤ ps.length ∧ vi = .int .i64 (i : Nat) ∧ findOf ps name = R ++ (rem ps i).filter (fun r => word ps r == name) ∧ R.length ≤ i ∧
    wr.ownsRow w.heap.size 9 1 vl ps.length (ps.map str) ∧ wr.ownsRow w.heap.size 38 2 vo R.length (cells2 R) ∧ Below w.heap.size w wr
set_option maxHeartbeats 2000000 in
theorem rfind_ok (ps : List Bs) (hps : AllP ps) (name : Bs) (hid : identL name = true) (w : World) (hl : ps.flatten.length ≤ 1000000) (hn : name.length ≤ 1000000) :
    Calls Tryd.prog 16 #[.string (ofL ps.flatten), .string (ofL name)] w fun e w' => ∃ v, e = .returned (.tuple #[v, .int .i64 0]) ∧ w'.ownsRow w.heap.size 38 2 v (findOf ps name).length (cells2 (findOf ps name)) ∧ Below w.heap.size w w' := by
  obtain ⟨i0, hi, hz0, hz1, hz2⟩ := info_parts infoSpan
  have CS := Lib.hid (fun w => rsplit_valid ps hps w (by omega))
  have cI := fun w => rident_any name w hn
  rw [hid] at cI
  have CI := Lib.hid cI
  clear cI hid
  have hpl := length_le_flatten ps hps
  go_enter Tryd.func16, Tryd.ntmps16
  go_wp2_with fail
  refine (CS.out _).mono ?_
  rintro e w1 ⟨v, rfl, ho, hb1⟩
  obtain ⟨A, c, rfl, hc1, hc2⟩ := (Rd.of_own ho).form
  unfold maxLen at hc2
  have HO := Lib.hid ho
  clear ho CS
  go_wp2_with fail
  refine (CI.out _).mono ?_
  rintro e w2 ⟨rfl, rfl⟩
  go_wp2
  go_loopw [9, 8, 10] (fun vi vo _ wr => RFindRel ps name w (.slice A ps.length c) vi vo wr) (fun vi _ _ _ => ps.length - (intOf vi).toNat)
  case atStart => exact ⟨0, [], Nat.zero_le _, rfl, by rw [rem_zero]; rfl, Nat.le_refl _, HO.out, World.ownsRow_nil _ _ _ _, hb1⟩
  case round =>
    obtain ⟨i, R, hile, rfl, hfo, hRi, hv, hown, hbw⟩ := hrel
    by_cases hlt : i < ps.length
    · obtain ⟨g, cap, hvv, _, hgl, _, _⟩ := own_form hv (by omega)
      obtain ⟨rfl, rfl⟩ : A = some ⟨g, 0, none⟩ ∧ c = cap := by injection hvv with e1 e2 e3; exact ⟨e1, e3⟩
      have d0 := hv.cellAt i (by omega)
      rw [List.getElem?_map, List.getElem?_eq_getElem hlt] at d0
      have d0' : wr.cell? ⟨g, i, none⟩ = some (.string (ofL ps[i])) := d0
      have hp := hps _ (List.getElem_mem hlt)
      have CP := fun w => rpart_piece hp w
      have hgd := getD_lt ps i hlt
      have HV := Lib.hid hv
      have HFO := Lib.hid hfo
      have HOWN := Lib.hid hown
      obtain ⟨p, hpp⟩ : ∃ p, ps[i] = p := ⟨_, rfl⟩
      rw [hpp] at d0' CP hgd
      cases hpq : partP p
      · -- no part
        have hst : startB ps i = false := by unfold startB; rw [hgd, hpq]; rfl
        have hre := rem_skip ps i hlt hst
        have HRE := Lib.hid hre
        rw [hpq] at CP
        have CP2 := Lib.hid CP
        clear d0 hp CP hgd hv hfo hown hpp hpq hst hre HO CI hvv
        go_wp2_with (go_at_call 30; refine (CP2.out _).mono ?_; rintro e w' ⟨rfl, rfl⟩)
        go_roundw
        case rel => exact ⟨i + 1, R, by omega, by go_num, by rw [HFO.out, HRE.out], by omega, HV.out, HOWN.out, hbw⟩
        case measure => simp [intOf]; omega
      · rw [hpq] at CP
        have CP2 := Lib.hid CP
        have hskip : ∀ (hi0 : 0 < i), partP (ps.getD (i - 1) []) = true → startB ps i = false := fun hi0 h => by
          unfold startB; rw [h]
          have : (i == 0) = false := beq_eq_false_iff_ne.2 (by omega)
          rw [this]; simp
        have hstart : (i = 0 ∨ partP (ps.getD (i - 1) []) = false) → startB ps i = true := fun h => by
          unfold startB; rw [hgd, hpq]
          rcases h with h | h
          · rw [h]; rfl
          · rw [h]; simp
        by_cases hin : 0 < i ∧ partP (ps.getD (i - 1) []) = true
        · -- inside a run
          obtain ⟨hi0, hq⟩ := hin
          obtain ⟨i', rfl⟩ : ∃ i', i = i' + 1 := ⟨i - 1, by omega⟩
          have hre := rem_skip ps (i' + 1) hlt (hskip hi0 hq)
          have HRE := Lib.hid hre
          have hlt' : i' < ps.length := by omega
          have e0 := hv.cellAt i' (by omega)
          rw [List.getElem?_map, List.getElem?_eq_getElem hlt'] at e0
          have e0' : wr.cell? ⟨g, i', none⟩ = some (.string (ofL ps[i'])) := e0
          have CQ := fun w => rpart_piece (hps _ (List.getElem_mem hlt')) w
          rw [Nat.add_sub_cancel, getD_lt ps i' hlt'] at hq
          rw [hq] at CQ
          have CQ2 := Lib.hid CQ
          obtain ⟨q, hqq⟩ : ∃ q, ps[i'] = q := ⟨_, rfl⟩
          rw [hqq] at e0' CQ2
          clear d0 hp CP hgd hv hfo hown hpp hpq hre HO CI hskip hstart hq CQ hqq e0 hvv
          go_wp2_with (first | (go_at_call 30; with_reducible refine (CP2.out _).mono ?_; rintro e w' ⟨rfl, rfl⟩) | (go_at_call 30; with_reducible refine (CQ2.out _).mono ?_; rintro e w' ⟨rfl, rfl⟩))
          go_roundw
          case rel => exact ⟨i' + 1 + 1, R, by omega, by go_num, by rw [HFO.out, HRE.out], by omega, HV.out, HOWN.out, hbw⟩
          case measure => simp [intOf]; omega
        · -- a run begins
          have hst : startB ps i = true := hstart (by
            rcases Nat.eq_zero_or_pos i with h | h
            · exact .inl h
            · refine .inr ?_
              cases hq : partP (ps.getD (i - 1) [])
              · rfl
              · exact absurd ⟨h, hq⟩ hin)
          have hre := rem_start ps i hlt hst
          have htl := tw_le (ps.drop i)
          rw [List.length_drop] at htl
          have hts := tw_spec (ps.drop i)
          have htw1 : 0 < tw (ps.drop i) := by
            rw [List.drop_eq_getElem_cons hlt, tw_cons, hpp, hpq]
            simp
          have hwd : word ps (i, i + tw (ps.drop i)) = ((ps.drop i).take (tw (ps.drop i))).flatten := by
            unfold word
            rw [Nat.add_sub_cancel_left]
          obtain ⟨t, htt⟩ : ∃ t, tw (ps.drop i) = t := ⟨_, rfl⟩
          rw [htt] at hre htl hts htw1 hwd
          have rdl := Rd.of_own hv
          have hci : ¬ c = i := by omega
          have rds := rd_sub (i := i) (k := i + t) rdl (by omega) (by omega)
          have hA : (some (⟨g, 0, none⟩ : Addr)).map (fun x => x.add i) = some ⟨g, i, none⟩ := by simp [Addr.add_lit]
          rw [Nat.add_sub_cancel_left, ← List.map_drop, ← List.map_take, hA] at rds
          have cj : Calls Tryd.prog 31 #[.slice (some ⟨g, i, none⟩) t (c - i)] wr fun e w' => e = .returned (.string (ofL ((ps.drop i).take t).flatten)) ∧ wr = w' := join_any _ _ _ ((ps.drop i).take t) wr.heap.size wr rds (by have := part_len ps i t; omega)
          have CJ := Lib.hid cj
          clear cj
          rw [← hwd] at CJ
          have HRE := Lib.hid hre
          have HTS := Lib.hid hts
          obtain ⟨wd, hwdd⟩ : ∃ wd, word ps (i, i + t) = wd := ⟨_, rfl⟩
          rw [hwdd] at CJ
          have HWD := Lib.hid hwdd
          clear hA
          clear hre hts hwd hwdd rds rdl htt hstart hskip hst d0 hp hgd hfo hown hpp hpq HO CI CP hvv
          have hcase : ((0 : Int) < (i : Nat) ∧ ∃ q, wr.cell? ⟨g, i - 1, none⟩ = some (.string (ofL q)) ∧ Hid (∀ w, Calls Tryd.prog 30 #[.string (ofL q)] w fun e w' => e = .returned (.bool false) ∧ w = w')) ∨ ¬ (0 : Int) < (i : Nat) := by
            rcases Nat.eq_zero_or_pos i with h | h
            · exact .inr (by omega)
            · have hlt' : i - 1 < ps.length := by omega
              have e0 := hv.cellAt (i - 1) (by omega)
              rw [List.getElem?_map, List.getElem?_eq_getElem hlt'] at e0
              have CQ := fun w => rpart_piece (hps _ (List.getElem_mem hlt')) w
              have hq : partP ps[i - 1] = false := by
                rw [← getD_lt ps (i - 1) hlt']
                cases hq : partP (ps.getD (i - 1) [])
                · rfl
                · exact absurd ⟨h, hq⟩ hin
              rw [hq] at CQ
              exact .inl ⟨by omega, _, e0, CQ⟩
          clear hin
          clear hv
          rcases hcase with ⟨hi0, q, e0, CQ⟩ | hi0
          all_goals
            go_wp2_with (first | (go_at_call 30; with_reducible refine (CP2.out _).mono ?_; rintro e w' ⟨rfl, rfl⟩) | (go_at_call 30; with_reducible refine (CQ.out _).mono ?_; rintro e w' ⟨rfl, rfl⟩))
            go_loop [10] (fun vk => ∃ j : Nat, j ≤ t ∧ vk = .int .i64 ((i + j : Nat) : Int)) (fun vk => ps.length + 1 - (intOf vk).toNat)
            case atStart => exact ⟨0, Nat.zero_le _, rfl⟩
            case round =>
              obtain ⟨j, hj, rfl⟩ := hrel
              by_cases hjt : j < t
              · have hlt2 : i + j < ps.length := by omega
                have e1 := HV.out.cellAt (i + j) (by omega)
                rw [List.getElem?_map, List.getElem?_eq_getElem hlt2] at e1
                have e1' : wr.cell? ⟨g, i + j, none⟩ = some (.string (ofL ps[i + j])) := e1
                have CR := fun w => rpart_piece (hps _ (List.getElem_mem hlt2)) w
                have hq : partP ps[i + j] = true := by
                  have := HTS.out.1 j (by rw [List.length_drop]; omega) hjt
                  rwa [List.getElem_drop] at this
                rw [hq] at CR
                have CR2 := Lib.hid CR
                obtain ⟨q2, hq2⟩ : ∃ q2, ps[i + j] = q2 := ⟨_, rfl⟩
                rw [hq2] at e1' CR2
                clear e1 CR hq hq2
                go_wp2_with (go_at_call 30; with_reducible refine (CR2.out _).mono ?_; rintro e w' ⟨rfl, rfl⟩)
                go_round
                case rel => exact ⟨j + 1, by omega, by go_num⟩
                case measure => simp [intOf]; omega
              · have hje : j = t := by omega
                subst hje
                have hex : (i + j < ps.length ∧ ∃ q3, wr.cell? ⟨g, i + j, none⟩ = some (.string (ofL q3)) ∧ Hid (∀ w, Calls Tryd.prog 30 #[.string (ofL q3)] w fun e w' => e = .returned (.bool false) ∧ w = w')) ∨ ¬ i + j < ps.length := by
                  by_cases hlt2 : i + j < ps.length
                  · have e1 := HV.out.cellAt (i + j) (by omega)
                    rw [List.getElem?_map, List.getElem?_eq_getElem hlt2] at e1
                    have CR := fun w => rpart_piece (hps _ (List.getElem_mem hlt2)) w
                    have hq : partP ps[i + j] = false := by
                      have := HTS.out.2 (by rw [List.length_drop]; omega)
                      rwa [List.getElem_drop] at this
                    rw [hq] at CR
                    exact .inl ⟨hlt2, _, e1, CR⟩
                  · exact .inr hlt2
                have hsub : i + j - i = j := by omega
                have hij : i ≤ i + j := by omega
                rcases Decidable.em (wd = name) with hwn | hwn
                · have hw2 : (word ps (i, i + j) == name) = true := by rw [HWD.out, hwn]; exact beq_iff_eq.2 rfl
                  have HW2 := Lib.hid hw2
                  rw [hwn] at CJ
                  clear hwn hw2
                  rcases hex with ⟨hlt2, q3, e1, CR⟩ | hlt2
                  all_goals
                    go_wp2_with (first | (go_at_call 30; with_reducible refine (CR.out _).mono ?_; rintro e w' ⟨rfl, rfl⟩) | (go_at_call 31; with_reducible refine (CJ.out).mono ?_; rintro e w' ⟨rfl, rfl⟩) | (at_builtin; refine wpList_append_own _ rfl _ _ 34 rfl w.heap.size 38 i0 (.agg #[.int .i64 0, .int .i64 0]) 2 16 Tryd.underlying34 hi hz0 hz1 hz2 rfl (by decide) _ _ _ rfl (HOWN.out.alloc _) ⟨wr.heap.size, 0, none⟩ 1 1 (cell2 (i, i + j)) rfl rfl ?c1 ?c2 ?c3 ?c4 ?c5 ?_))
                    case c1 => exact cells_new wr (cell2 (i, i + j)) 38
                    case c2 => exact fun u hu => cells2_oneCell [(i, i + j)] u (by rw [cells2_one]; exact hu)
                    case c3 => simp only [maxLen]; omega
                    case c4 => omega
                    case c5 => have := hbw.size; simp; omega
                    intro v' w3 hown' hgrow _
                    have hv3 := Lib.hid (((HV.out.alloc _).kept hgrow (own_types2 HV.out HOWN.out)))
                    have hbw3 := (hbw.alloc hbw.size _).grown hgrow (by have := hbw.size; simp; omega) (fun k hk => (HOWN.out.lt k hk).1)
                    have HN := Lib.hid hown'
                    clear hgrow hown'
                    go_wp2
                    go_roundw
                    case rel =>
                      refine ⟨i + 1, R ++ [(i, i + j)], by omega, by go_num, ?_, by rw [List.length_append, List.length_singleton]; omega, hv3.out, ?_, hbw3⟩
                      · rw [HFO.out, HRE.out, List.filter_cons, HW2.out, if_pos rfl, List.append_assoc]; rfl
                      · rw [List.length_append, List.length_singleton, cells2_append, cells2_one]; exact HN.out
                    case measure => simp [intOf]; omega
                · have hw2 : (word ps (i, i + j) == name) = false := by rw [HWD.out]; exact beq_eq_false_iff_ne.2 hwn
                  have HW2 := Lib.hid hw2
                  have hne := ofL_neq hwn
                  clear hwn hw2
                  rcases hex with ⟨hlt2, q3, e1, CR⟩ | hlt2
                  all_goals
                    go_wp2_with (first | (go_at_call 30; with_reducible refine (CR.out _).mono ?_; rintro e w' ⟨rfl, rfl⟩) | (go_at_call 31; with_reducible refine (CJ.out).mono ?_; rintro e w' ⟨rfl, rfl⟩))
                    go_roundw
                    case rel =>
                      refine ⟨i + 1, R, by omega, by go_num, ?_, by omega, HV.out, HOWN.out, hbw⟩
                      rw [HFO.out, HRE.out, List.filter_cons, HW2.out, if_neg (by simp)]
                    case measure => simp [intOf]; omega
    · have hre := rem_end ps i (by omega)
      rw [hre, List.filter_nil, List.append_nil] at hfo
      have HFO := Lib.hid hfo
      have HOWN := Lib.hid hown
      clear hre hfo hown hv HO CI
      go_wp2
      go_ret2
      exact ⟨_, rfl, by rw [HFO.out]; exact HOWN.out, hbw⟩
end Go.Proofs.YtdkkfjcbdokdjaaDoor
