/- The statements' own walks: the number in the middle stands in the middle. -/
import Derived.Test.YtjlghmjngiegaaaW8
namespace Go.Proofs.Ytjlghmjngiegaaa
open Go Go.Gauge Go.RowKit
def cA (m : Nat) (N : List F64) : Nat := N.countP fun x => decide (keyCmp x.1 m < 0)
def cB (m : Nat) (N : List F64) : Nat := N.countP fun x => decide (0 < keyCmp x.1 m)
def cW (m : Nat) (N : List F64) : Nat := N.countP fun x => decide (keyCmp x.1 m = 0)
def seen (zs : List F64) (k : Nat) : List F64 := (zs.take k).filter numF
theorem seen_zero (zs : List F64) : seen zs 0 = [] := rfl
theorem seen_all (zs : List F64) : seen zs zs.length = zs.filter numF := by unfold seen; rw [List.take_length]
theorem seen_no (zs : List F64) (k : Nat) (h : k < zs.length) (hn : numF zs[k] = false) : seen zs (k + 1) = seen zs k := by
  unfold seen
  rw [List.take_succ_eq_append_getElem h, List.filter_append]
  simp [hn]
theorem seen_yes (zs : List F64) (k : Nat) (h : k < zs.length) (hn : numF zs[k] = true) : seen zs (k + 1) = seen zs k ++ [zs[k]] := by
  unfold seen
  rw [List.take_succ_eq_append_getElem h, List.filter_append]
  simp [hn]
theorem seen_le (zs : List F64) (k : Nat) : (seen zs k).length ≤ zs.length := by
  unfold seen
  exact Nat.le_trans (List.length_filter_le _ _) (List.length_take_le' _ _)
theorem cA_snoc (m : Nat) (N : List F64) (x : F64) : cA m (N ++ [x]) = cA m N + if keyCmp x.1 m < 0 then 1 else 0 := by
  unfold cA; rw [List.countP_append]; simp [List.countP_cons]
theorem cB_snoc (m : Nat) (N : List F64) (x : F64) : cB m (N ++ [x]) = cB m N + if 0 < keyCmp x.1 m then 1 else 0 := by
  unfold cB; rw [List.countP_append]; simp [List.countP_cons]
theorem cW_snoc (m : Nat) (N : List F64) (x : F64) : cW m (N ++ [x]) = cW m N + if keyCmp x.1 m = 0 then 1 else 0 := by
  unfold cW; rw [List.countP_append]; simp [List.countP_cons]
theorem c_le (m : Nat) (N : List F64) : cA m N ≤ N.length ∧ cB m N ≤ N.length ∧ cW m N ≤ N.length := ⟨List.countP_le_length, List.countP_le_length, List.countP_le_length⟩
def MidRel (zs : List F64) (m : Nat) (w1 : World) (n a b c i : Value) (wr : World) : Prop :=
  ∃ k : Nat, k ≤ zs.length ∧ i = .int .i64 k ∧ n = .int .i64 ((seen zs k).length : Nat) ∧ a = .int .i64 (cA m (seen zs k) : Nat) ∧ b = .int .i64 (cB m (seen zs k) : Nat) ∧ c = .int .i64 (cW m (seen zs k) : Nat) ∧ ∃ q, wr = w1.drewN q
theorem mid_counts {zs : List F64} {m : F64} {L : List F64} (hp : L.Perm (zs.filter numF)) (hs : L.Pairwise (fun a b => key a.1 ≤ key b.1)) (h : (L.length - 1) / 2 < L.length) (hm : m = L[(L.length - 1) / 2]) :
    2 * cA m.1 (zs.filter numF) < (zs.filter numF).length ∧ 2 * cB m.1 (zs.filter numF) ≤ (zs.filter numF).length ∧ 0 < cW m.1 (zs.filter numF) := by
  have hp' := hp.map (fun x : F64 => x.1)
  have hs' : (L.map (fun x : F64 => x.1)).Pairwise (fun a b => key a ≤ key b) := List.pairwise_map.2 hs
  have := middle_law hp' hs' (by rw [List.length_map]; exact h)
  simp only [List.length_map, List.getElem_map, List.countP_map] at this
  rw [← hm] at this
  exact this
set_option maxRecDepth 100000 in
set_option maxHeartbeats 2000000 in
theorem middles_walk (hM : MidSaid) (zs : List F64) (A : Option Addr) (n c : Nat) (w : World) (hR : Rd w w.heap.size 1 (.slice A n c) n (zs.map fl)) :
    Calls Try.prog 4 #[.slice A n c] w fun e w' => e = .returned (.bool true) ∧ Below w.heap.size w w' := by
  have HA := Lib.hid (awake_of hM)
  have hl : zs.length = n := by have := hR.1; simpa using this
  subst hl
  obtain ⟨_, hnc, hcm⟩ := hR.len
  unfold maxLen at hcm
  by_cases hbig : 300 < zs.length
  · clear hR hM
    go_enter Try.func4, Try.ntmps4
    go_wp2_with fail
    refine (HA.out _).mono ?_
    rintro e w1 ⟨rfl, hbl⟩
    go_wp2
    go_ret
    exact ⟨rfl, hbl⟩
  · have HM := Lib.hid hM
    have HRd := Lib.hid hR
    clear hR hM
    go_enter Try.func4, Try.ntmps4
    go_wp2_with fail
    refine (HA.out _).mono ?_
    rintro e w1 ⟨rfl, hbl⟩
    go_wp2_with fail
    refine (HM.out zs A zs.length c w1 ((HRd.out.below hbl).more hbl.size) (by omega)).mono ?_
    rintro e w2 ⟨m, k, rfl, hb2, hm⟩
    have hbl2 := hbl.trans (hb2.mono hbl.size)
    have HR2 := Lib.hid (HRd.out.below hbl2)
    have HMm := Lib.hid hm
    clear hm hbl hb2 HRd
    go_wp2
    go_loopw [6, 7, 8, 9, 10] (fun n a b c i wr => MidRel zs m.1 w2 n a b c i wr) (fun _ _ _ _ i _ => zs.length - (intOf i).toNat)
    case atStart => exact ⟨0, Nat.zero_le _, rfl, rfl, rfl, rfl, rfl, 0, rfl⟩
    case round =>
      obtain ⟨k, hk, rfl, rfl, rfl, rfl, rfl, q, rfl⟩ := hrel
      have hsl := seen_le zs k
      obtain ⟨ca, cb, cw⟩ := c_le m.1 (seen zs k)
      by_cases hlt : k < zs.length
      · obtain ⟨b, o, rfl, hB, hcell⟩ := HR2.out.cells (by omega)
        have hc : w2.cell? ⟨b, o + k, none⟩ = some (.float .f64 zs[k].1) := hcell k _ (by rw [List.getElem?_map, List.getElem?_eq_getElem hlt]; rfl)
        have HN := Lib.hid (rnumber_any zs[k].1)
        have HC := Lib.hid (cmp_any zs[k].1 m.1 zs[k].2 m.2)
        clear hcell hB
        cases hn : numF zs[k]
        · have hs1 := Lib.hid (seen_no zs k hlt hn)
          have hn' : num zs[k].1 = false := hn
          rw [hn'] at HN
          clear hn hn'
          generalize seen zs k = S at *
          generalize hx : zs[k].1 = x at *
          clear hx
          go_wp2_with (go_at_call 15; refine (HN.out _).mono ?_; rintro e w' ⟨rfl, q2, rfl⟩)
          go_roundw
          case rel => exact ⟨k + 1, by omega, by go_num, by rw [hs1.out], by rw [hs1.out], by rw [hs1.out], by rw [hs1.out], _, rfl⟩
          case measure => simp [intOf]; omega
        · have hs1 := seen_yes zs k hlt hn
          have ea := Lib.hid (cA_snoc m.1 (seen zs k) zs[k])
          have eb := Lib.hid (cB_snoc m.1 (seen zs k) zs[k])
          have ew := Lib.hid (cW_snoc m.1 (seen zs k) zs[k])
          have hs1 := Lib.hid hs1
          have hn' : num zs[k].1 = true := hn
          rw [hn'] at HN
          clear hn hn'
          generalize seen zs k = S at *
          obtain ⟨y, hy⟩ : ∃ y, zs[k] = y := ⟨_, rfl⟩
          rw [hy] at HN HC hc ea eb ew hs1
          clear hy
          obtain ⟨y, hyl⟩ := y
          dsimp only at HN HC hc ea eb ew
          rcases Int.lt_trichotomy (keyCmp y m.1) 0 with h | h | h
          · rw [if_pos h] at ea
            rw [if_neg (by omega)] at eb
            rw [if_neg (by omega)] at ew
            generalize keyCmp y m.1 = d at *
            go_wp2_with (first | (go_at_call 15; refine (HN.out _).mono ?_; rintro e w' ⟨rfl, q2, rfl⟩) | (go_at_call 16; refine (HC.out _).mono ?_; rintro e w' ⟨rfl, rfl⟩))
            go_roundw
            case rel => exact ⟨k + 1, by omega, by go_num, by rw [hs1.out, List.length_append]; go_num, by rw [hs1.out, ea.out]; go_num, by rw [hs1.out, eb.out]; rfl, by rw [hs1.out, ew.out]; rfl, _, rfl⟩
            case measure => simp [intOf]; omega
          · rw [if_neg (by omega)] at ea
            rw [if_neg (by omega)] at eb
            rw [if_pos h] at ew
            rw [h] at HC
            go_wp2_with (first | (go_at_call 15; refine (HN.out _).mono ?_; rintro e w' ⟨rfl, q2, rfl⟩) | (go_at_call 16; refine (HC.out _).mono ?_; rintro e w' ⟨rfl, rfl⟩))
            go_roundw
            case rel => exact ⟨k + 1, by omega, by go_num, by rw [hs1.out, List.length_append]; go_num, by rw [hs1.out, ea.out]; rfl, by rw [hs1.out, eb.out]; rfl, by rw [hs1.out, ew.out]; go_num, _, rfl⟩
            case measure => simp [intOf]; omega
          · rw [if_neg (by omega)] at ea
            rw [if_pos h] at eb
            rw [if_neg (by omega)] at ew
            generalize keyCmp y m.1 = d at *
            have hd : ¬ d < 0 := by omega
            go_wp2_with (first | (go_at_call 15; refine (HN.out _).mono ?_; rintro e w' ⟨rfl, q2, rfl⟩) | (go_at_call 16; refine (HC.out _).mono ?_; rintro e w' ⟨rfl, rfl⟩))
            go_roundw
            case rel => exact ⟨k + 1, by omega, by go_num, by rw [hs1.out, List.length_append]; go_num, by rw [hs1.out, ea.out]; rfl, by rw [hs1.out, eb.out]; go_num, by rw [hs1.out, ew.out]; rfl, _, rfl⟩
            case measure => simp [intOf]; omega
      · have hke : k = zs.length := by omega
        subst hke
        rw [seen_all] at *
        have hbq := below_dN hbl2 q
        clear hbl2 HR2
        rcases HMm.out with ⟨he, hm0, rfl⟩ | ⟨L, hp, hs, hlt2, hml, rfl⟩
        · rw [he] at *
          have e1 : cA m.1 [] = 0 := rfl
          have e2 : cB m.1 [] = 0 := rfl
          have e3 : cW m.1 [] = 0 := rfl
          rw [e1, e2, e3]
          have HS := Lib.hid (same_any m.1 0)
          rw [show sameB m.1 0 = true by unfold sameB; rw [hm0]; simp] at HS
          clear e1 e2 e3 hm0 he HMm
          go_wp2_with (go_at_call 11; refine (HS.out _).mono ?_; rintro e w' ⟨rfl, rfl⟩)
          go_ret
          exact ⟨rfl, hbq⟩
        · obtain ⟨t1, t2, t3⟩ := mid_counts hp hs hlt2 hml
          have hz : (((zs.filter numF).length : Int) == 0) = false := by rw [beq_eq_false_iff_ne]; omega
          clear hp hs hlt2 hml HMm
          generalize zs.filter numF = S at *
          generalize cA m.1 S = a at *
          generalize cB m.1 S = b at *
          generalize cW m.1 S = c' at *
          generalize S.length = s at *
          have i1 : (2 : Int) * a < s := by omega
          have i2 : (2 : Int) * b ≤ s := by omega
          have i3 : (0 : Int) < c' := by omega
          go_wp2
          go_ret
          exact ⟨ret_b (by simp), hbq⟩
end Go.Proofs.Ytjlghmjngiegaaa
