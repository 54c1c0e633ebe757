/- The law WeaveTurns, walked. -/
import Derived.Test.YtphapjbfaomblaaDoorZb24
namespace Go.Proofs.YtphapjbfaomblaaDoor
open Go Go.RowKit
def ix (n t i : Nat) : Nat := (n - 1 - i + t) % n
theorem ix_lt {n t i : Nat} (h : i < n) : ix n t i < n := Nat.mod_lt _ (by omega)
theorem ix_inj {n t i j : Nat} (hi : i < n) (hj : j < n) (e : ix n t i = ix n t j) : i = j := by
  unfold ix at e
  have h1 := Nat.div_add_mod (n - 1 - i + t) n
  have h2 := Nat.div_add_mod (n - 1 - j + t) n
  rw [e] at h1
  generalize (n - 1 - i + t) / n = p at h1
  generalize (n - 1 - j + t) / n = q at h2
  generalize (n - 1 - j + t) % n = r at h1 h2
  rcases Nat.lt_trichotomy p q with h | h | h
  · have := Nat.mul_le_mul_left n (show p + 1 ≤ q from h)
    rw [Nat.mul_add] at this
    omega
  · subst h; omega
  · have := Nat.mul_le_mul_left n (show q + 1 ≤ p from h)
    rw [Nat.mul_add] at this
    omega
theorem ix_onto {n t j : Nat} (hj : j < n) : ∃ i, i < n ∧ ix n t i = j := by
  refine ⟨(n - 1 + t - j) % n, Nat.mod_lt _ (by omega), ?_⟩
  unfold ix
  have h1 := Nat.div_add_mod (n - 1 + t - j) n
  have h2 : (n - 1 + t - j) % n < n := Nat.mod_lt _ (by omega)
  generalize (n - 1 + t - j) / n = q at h1
  generalize (n - 1 + t - j) % n = r at h1 h2 ⊢
  have e : n - 1 - r + t = j + n * q := by omega
  rw [e, Nat.add_mul_mod_self_left, Nat.mod_eq_of_lt hj]
theorem perm_of_same {α : Type} : ∀ {l m : List α}, l.Nodup → m.Nodup → (∀ x, x ∈ l ↔ x ∈ m) → l.Perm m
  | [], m, _, _, h => by
    cases m with
    | nil => exact List.Perm.refl _
    | cons b m => exact absurd ((h b).2 (by simp)) (by simp)
  | a :: l, m, hl, hm, h => by
    obtain ⟨s, t, rfl⟩ := List.append_of_mem ((h a).1 (by simp))
    obtain ⟨h1, h2⟩ := List.nodup_cons.1 hl
    have hp : (s ++ a :: t).Perm (a :: (s ++ t)) := List.perm_middle
    obtain ⟨h3, h4⟩ := List.nodup_cons.1 (hp.nodup_iff.1 hm)
    refine (List.Perm.cons a (perm_of_same h2 h4 fun x => ?_)).trans hp.symm
    have hx := (h x).trans hp.mem_iff
    simp only [List.mem_cons] at hx
    constructor
    · intro hm'
      rcases hx.1 (.inr hm') with e | h'
      · exact absurd (e ▸ hm') h1
      · exact h'
    · intro hm'
      rcases hx.2 (.inr hm') with e | h'
      · exact absurd (e ▸ hm') h3
      · exact h'
theorem ix_perm (n t : Nat) : ((List.range n).map (ix n t)).Perm (List.range n) := by
  refine perm_of_same ?_ List.nodup_range fun x => ?_
  · unfold List.Nodup
    rw [List.pairwise_map]
    refine List.nodup_range.imp_of_mem ?_
    intro a b ha hb hab e
    exact hab (ix_inj (List.mem_range.1 ha) (List.mem_range.1 hb) e)
  · rw [List.mem_map, List.mem_range]
    constructor
    · rintro ⟨i, hi, rfl⟩
      exact ix_lt (List.mem_range.1 hi)
    · intro hx
      obtain ⟨i, hi, e⟩ := ix_onto (t := t) hx
      exact ⟨i, List.mem_range.2 hi, e⟩
theorem runsAt_map (L : List Pick) : ∀ k, runsAt L k = (List.range k).map (runAt L)
  | 0 => rfl
  | k + 1 => by rw [runsAt, runsAt_map L k, List.range_succ, List.map_append]; rfl
def backAt (L : List Pick) (N t j : Nat) : List Rn := (List.range j).map (fun i => runAt L (ix N t i))
theorem back_perm (L : List Pick) (N t : Nat) : (runsAt L N).Perm (backAt L N t N) := by
  rw [runsAt_map]
  have := (ix_perm N t).map (runAt L)
  rw [List.map_map] at this
  exact this.symm
theorem flat_perm {R S : List Rn} (h : R.Perm S) : (flat R).Perm (flat S) := h.flatMap_right _
theorem runAt_tx (L : List Pick) (k : Nat) : (runAt L k).tx.size = gN (L.getD k zeroP) := by
  show (ofL _).size = _
  rw [ofL_size, gT_len]
theorem gN_le (p : Pick) : gN p ≤ 4 := by unfold gN; omega
theorem runsAt_tx (L : List Pick) (k : Nat) : ∀ r ∈ runsAt L k, r.tx.size ≤ 4 := fun r hr => by
  rw [runsAt_map] at hr
  obtain ⟨i, _, rfl⟩ := List.mem_map.1 hr
  rw [runAt_tx]
  exact gN_le _
theorem flatAt_le (L : List Pick) (k : Nat) : (flatAt L k).length ≤ k * 4 := by
  have := flat_size (runsAt L k) 4 (runsAt_tx L k)
  rw [runsAt_len] at this
  exact this
theorem back_tx (L : List Pick) (N t j : Nat) : ∀ r ∈ backAt L N t j, r.tx.size ≤ 4 := fun r hr => by
  obtain ⟨i, _, rfl⟩ := List.mem_map.1 hr
  rw [runAt_tx]
  exact gN_le _
theorem back_len (L : List Pick) (N t j : Nat) : (backAt L N t j).length = j := by simp [backAt]
def TuRel (L : List Pick) (N t : Nat) (wB : World) (out i : Value) (wr : World) : Prop :=
  ∃ j : Nat, j ≤ N ∧ i = .int .i64 j ∧ wr.ownsRow wB.heap.size 28 7 out j ((backAt L N t j).flatMap rnC) ∧ Below wB.heap.size wB wr
def SuRel (L : List Pick) (N : Nat) (wB : World) (n i : Value) (wr : World) : Prop :=
  ∃ j : Nat, j ≤ N ∧ i = .int .i64 j ∧ n = .int .i64 ((flatAt L j).length : Nat) ∧ Below wB.heap.size wB wr
set_option maxRecDepth 100000 in
set_option maxHeartbeats 8000000 in
theorem turns_walk (L : List Pick) (A : Option Addr) (n c : Nat) (x : Int) (hx : 0 ≤ x ∧ x ≤ 255) (w : World) (hR : Rd w w.heap.size 3 (.slice A n c) n (L.flatMap pickC)) (hT : Tabs w) :
    Calls Tryd.prog 4 #[.slice A n c, .int .u8 x] w fun e w' => e = .returned (.bool true) ∧ Below w.heap.size w w' := by
  obtain ⟨t, rfl⟩ : ∃ t : Nat, x = (t : Int) := ⟨x.toNat, by omega⟩
  have ht : t ≤ 255 := by omega
  have HR := Lib.hid (fun W (hW : Below w.heap.size w W) => hR.below' hW (Nat.le_refl _))
  have HT := Lib.hid (fun W (hW : Below w.heap.size w W) => hT.below hW)
  obtain ⟨j0, gi, gz0, gz1, gz2⟩ := info_parts info28
  clear hR hT hx
  go_enter Tryd.func4, Tryd.ntmps4
  go_wp2_with fail
  refine (awake_any w (HT.out w (Below.refl _ _))).mono ?_
  rintro e w1 ⟨rfl, hb1⟩
  have HB1 := Lib.hid hb1
  clear hb1
  go_wp2_with fail
  refine (grown_any L A n c w.heap.size w1 (HR.out w1 HB1.out) HB1.out.size).mono ?_
  rintro e w2 ⟨v, rfl, hO, hb2⟩
  obtain ⟨N, hN⟩ : ∃ N, min L.length 15 = N := ⟨_, rfl⟩
  have hN15 : N ≤ 15 := by omega
  rw [hN] at hO
  obtain ⟨Av, cv, rfl, _, _⟩ := (Rd.of_own hO).form
  have HV := Lib.hid (fun W (hW : Below w2.heap.size w2 W) => (Rd.of_own hO).below' hW (Nat.le_refl _))
  have HB2 := Lib.hid (HB1.out.trans (hb2.mono HB1.out.size))
  clear hN hO hb2 HR
  go_wp2
  go_loopw [7, 8] (fun out i wr => TuRel L N t w2 out i wr) (fun _ i _ => N - (intOf i).toNat)
  case atStart => exact ⟨0, Nat.zero_le _, rfl, World.ownsRow_nil _ _ _ _, Below.refl _ _⟩
  case round =>
    obtain ⟨k, hk, rfl, hO, hb⟩ := hrel
    obtain ⟨wo, rfl⟩ : ∃ wo : World, wo = wr := ⟨_, rfl⟩
    obtain ⟨Ax, cx, rfl, hLc, hcm⟩ := (Rd.of_own hO).form
    have HO := Lib.hid hO
    have HBo := Lib.hid hb
    clear hO hb
    by_cases hlt : k < N
    · obtain ⟨n1, hn1⟩ : ∃ z, N - 1 = z := ⟨_, rfl⟩
      obtain ⟨n2, hn2⟩ : ∃ z, n1 - k = z := ⟨_, rfl⟩
      obtain ⟨n3, hn3⟩ : ∃ z, n2 + t = z := ⟨_, rfl⟩
      obtain ⟨xi, hxi⟩ : ∃ z, n3 % N = z := ⟨_, rfl⟩
      have hix : ix N t k = xi := by unfold ix; rw [hn1, hn2, hn3, hxi]
      have hxl : xi < N := by rw [← hix]; exact ix_lt hlt
      have a1 : IntKind.i64.wrap ((N : Int) - 1) = (n1 : Int) := by rw [IntWalk.i64_in _ (by omega)]; omega
      have a2 : IntKind.i64.wrap ((n1 : Int) - (k : Int)) = (n2 : Int) := by rw [IntWalk.i64_in _ (by omega)]; omega
      have a3 : IntKind.i64.wrap (t : Int) = (t : Int) := IntWalk.i64_in _ (by omega)
      have a4 : IntKind.i64.wrap ((n2 : Int) + (t : Int)) = (n3 : Int) := by rw [IntWalk.i64_in _ (by omega)]; omega
      have m1 : Int.tmod (n3 : Int) (N : Int) = (xi : Int) := by rw [Int.tmod_eq_emod_of_nonneg (by omega), ← hxi]; rfl
      have hN0 : ¬ N = 0 := by omega
      have i1 : (0 : Int) ≤ (xi : Int) := by omega
      have i2 : (xi : Int) < (N : Int) := by omega
      obtain ⟨b, o, rfl, hBb, hcell⟩ := rd_at rnC 7 (fun _ => rfl) (by decide) (show Rd wo w2.heap.size 7 (.slice Av (runsAt L N).length cv) (runsAt L N).length ((runsAt L N).flatMap rnC) from by rw [runsAt_len]; exact HV.out wo HBo.out) (show xi < (runsAt L N).length by rw [runsAt_len]; exact hxl)
      rw [runsAt_get] at hcell
      have hbk : backAt L N t (k + 1) = backAt L N t k ++ [runAt L xi] := by
        unfold backAt
        rw [List.range_succ, List.map_append, List.map_singleton, hix]
      obtain ⟨r, hr⟩ : ∃ r, runAt L xi = r := ⟨_, rfl⟩
      rw [hr] at hcell hbk
      have HBK := Lib.hid hbk
      have c0 : wo.cell? ⟨b, o + xi * 7, none⟩ = some (.int .i64 r.af.s.T) := hcell 0 _ rfl
      have c1 : wo.cell? ⟨b, o + xi * 7 + 1, none⟩ = some (.int .i64 r.af.s.R) := hcell 1 _ rfl
      have c2 : wo.cell? ⟨b, o + xi * 7 + 2, none⟩ = some (.int .i64 r.af.I) := hcell 2 _ rfl
      have c3 : wo.cell? ⟨b, o + xi * 7 + 3, none⟩ = some (.int .i64 r.el.s.T) := hcell 3 _ rfl
      have c4 : wo.cell? ⟨b, o + xi * 7 + 4, none⟩ = some (.int .i64 r.el.s.R) := hcell 4 _ rfl
      have c5 : wo.cell? ⟨b, o + xi * 7 + 5, none⟩ = some (.int .i64 r.el.I) := hcell 5 _ rfl
      have c6 : wo.cell? ⟨b, o + xi * 7 + 6, none⟩ = some (.string r.tx) := hcell 6 _ rfl
      clear hcell hbk hr hix hn1 hn2 hn3 hxi
      go_wp2_with (at_builtin; refine wpList_append_own_at _ rfl _ _ 22 rfl w2.heap.size 28 j0 _ 7 64 Tryd.underlying22 gi gz0 gz1 gz2 rfl (by decide) _ _ _ rfl (HO.out.alloc _) ⟨wo.heap.size, 0, none⟩ 1 1 [.int .i64 r.af.s.T, .int .i64 r.af.s.R, .int .i64 r.af.I, .int .i64 r.el.s.T, .int .i64 r.el.s.R, .int .i64 r.el.I, .string r.tx] rfl rfl (cells_new wo [.int .i64 r.af.s.T, .int .i64 r.af.s.R, .int .i64 r.af.I, .int .i64 r.el.s.T, .int .i64 r.el.s.R, .int .i64 r.el.I, .string r.tx] 28) (by simp [Value.oneCell']) (by unfold maxLen; omega) (by omega) (by have := HBo.out.size; simp; omega) ?_)
      intro v7 W7 hown7 hgrow7 _ _
      have hb7 : Below w2.heap.size w2 W7 := (HBo.out.alloc HBo.out.size _).grown hgrow7 (by have := HBo.out.size; simp; omega) (fun j hj => (HO.out.lt j hj).1)
      have HO7 := Lib.hid (show W7.ownsRow w2.heap.size 28 7 v7 (k + 1) ((backAt L N t (k + 1)).flatMap rnC) by rw [HBK.out, List.flatMap_append, List.flatMap_singleton]; exact hown7)
      have HB7 := Lib.hid hb7
      clear hown7 hgrow7 hb7 c0 c1 c2 c3 c4 c5 c6
      go_wp2
      go_roundw
      case rel => exact ⟨k + 1, by omega, by go_num, HO7.out, HB7.out⟩
      case measure => simp [intOf]; omega
    · obtain rfl : k = N := by omega
      have hf1 : (flat (runsAt L k)).length ≤ 100000 := by have := flatAt_le L k; unfold flatAt at this; omega
      have hp := flat_perm (back_perm L k t)
      have hf2 : (flat (backAt L k k t)).length ≤ 100000 ∨ True := .inr trivial
      clear hf2
      have hf2 : (flat (backAt L k t k)).length ≤ 100000 := by rw [← hp.length_eq]; exact hf1
      have hwo : Below w.heap.size w wo := HB2.out.trans (HBo.out.mono HB2.out.size)
      have HO1 := Lib.hid (order_any (runsAt L k) Av k cv w2.heap.size wo (HV.out wo HBo.out) HBo.out.size (HT.out wo hwo) hf1 (fun r hr => Nat.le_trans (runsAt_tx L k r hr) (by omega)))
      have HO2 := Lib.hid (fun W (hW : Below wo.heap.size wo W) => order_any (backAt L k t k) Ax k cx W.heap.size W (((Rd.of_own HO.out).below' hW (Nat.le_refl _)).more hW.size) (Nat.le_refl _) (HT.out W (hwo.trans (hW.mono hwo.size))) hf2 (fun r hr => Nat.le_trans (back_tx L k t k r hr) (by omega)))
      have HP := Lib.hid hp
      have HWO := Lib.hid hwo
      clear hf1 hf2 hp hwo
      go_wp2_with fail
      refine HO1.out.mono ?_
      rintro e w4 ⟨O, v4, hO4, rfl, hv4, _, hb4⟩
      have HO4 := Lib.hid hO4
      obtain ⟨A4, c4, rfl, _, _⟩ := (Rd.of_own hv4).form
      have HV4 := Lib.hid (fun W (hW : Below w4.heap.size w4 W) => (Rd.of_own hv4).below' hW (Nat.le_refl _))
      have HB4 := Lib.hid hb4
      clear hO4 hv4 hb4
      go_wp2_with fail
      refine (HO2.out w4 HB4.out).mono ?_
      rintro e w5 ⟨O', v5, hO5, rfl, hv5, _, hb5⟩
      obtain rfl := grown_same L (by omega) HP.out HO4.out hO5
      obtain ⟨A5, c5, rfl, _, _⟩ := (Rd.of_own hv5).form
      have hlen := grown_len L (by omega) HO4.out
      have htxt := grown_txt L (by omega) HO4.out
      have HV5 := Lib.hid (fun W (hW : Below w5.heap.size w5 W) => (Rd.of_own hv5).below' hW (Nat.le_refl _))
      have HB5 := Lib.hid hb5
      have hbo5 : Below wo.heap.size wo w5 := HB4.out.trans (hb5.mono HB4.out.size)
      have HBo5 := Lib.hid (HBo.out.trans (hbo5.mono HBo.out.size))
      have HW5 := Lib.hid (HWO.out.trans (hbo5.mono HWO.out.size))
      obtain ⟨F, hF⟩ : ∃ F, (flatAt L k).length = F := ⟨_, rfl⟩
      rw [hF] at hlen htxt
      obtain ⟨s, hs⟩ : ∃ s, ofL (txt (els O)) = s := ⟨_, rfl⟩
      have hsz : s.size = F := by rw [← hs, ofL_size]; exact htxt
      rw [hs, hlen]
      rw [hlen] at HV4 HV5
      have HF := Lib.hid hF
      clear hO5 hv5 hb5 hbo5 hlen htxt hF hs HO1 HO2
      go_wp2
      go_loopw [13, 14] (fun n i wr => SuRel L k w5 n i wr) (fun _ i _ => k - (intOf i).toNat)
      case atStart => exact ⟨0, Nat.zero_le _, rfl, rfl, Below.refl _ _⟩
      case round =>
        obtain ⟨j, hj, rfl, rfl, hb⟩ := hrel
        obtain ⟨wq, rfl⟩ : ∃ wq : World, wq = wr := ⟨_, rfl⟩
        have HBq := Lib.hid hb
        clear hb
        by_cases hjt : j < k
        · obtain ⟨b, o, rfl, hBb, hcell⟩ := rd_at rnC 7 (fun _ => rfl) (by decide) (show Rd wq w2.heap.size 7 (.slice Av (runsAt L k).length cv) (runsAt L k).length ((runsAt L k).flatMap rnC) from by rw [runsAt_len]; exact HV.out wq (HBo5.out.trans (HBq.out.mono HBo5.out.size))) (show j < (runsAt L k).length by rw [runsAt_len]; exact hjt)
          rw [runsAt_get] at hcell
          have c6 : wq.cell? ⟨b, o + j * 7 + 6, none⟩ = some (.string (runAt L j).tx) := hcell 6 _ rfl
          have htx := runAt_tx L j
          obtain ⟨tx, htxe⟩ : ∃ z, (runAt L j).tx = z := ⟨_, rfl⟩
          rw [htxe] at c6 htx
          have hsu : (flatAt L (j + 1)).length = (flatAt L j).length + tx.size := by rw [flatAt_succ, List.length_append, gE_len, htx]
          have hle := flatAt_le L (j + 1)
          obtain ⟨f1, hf1⟩ : ∃ z, (flatAt L j).length = z := ⟨_, rfl⟩
          obtain ⟨sz, hsz'⟩ : ∃ z, tx.size = z := ⟨_, rfl⟩
          rw [hf1, hsz'] at hsu
          have HSU := Lib.hid hsu
          have hw : IntKind.i64.wrap ((f1 : Int) + (sz : Int)) = ((f1 + sz : Nat) : Int) := by rw [IntWalk.i64_in _ (by omega)]; omega
          have i1 : (0 : Int) ≤ (j : Int) := by omega
          have i2 : (j : Int) < (k : Int) := by omega
          rw [hf1]
          clear hcell htx htxe hsu hle hf1
          go_wp2
          go_roundw
          case rel => exact ⟨j + 1, by omega, by go_num, by rw [HSU.out]; go_num, HBq.out⟩
          case measure => simp [intOf]; omega
        · obtain rfl : j = k := by omega
          rw [HF.out]
          have HSA := Lib.hid (sameId_any (ids O) (ids O) A4 A5 _ c4 _ c5 wq.heap.size wq ((HV4.out wq (HB5.out.trans (HBq.out.mono HB5.out.size))).more (HB5.out.trans (HBq.out.mono HB5.out.size)).size) ((HV5.out wq HBq.out).more HBq.out.size))
          rw [decide_eq_true (rfl : ids O = ids O)] at HSA
          go_wp2_with fail
          refine HSA.out.mono ?_
          rintro e w8 ⟨rfl, hg8⟩
          have HB8 := Lib.hid ((HW5.out.trans (HBq.out.mono HW5.out.size)).trans (hg8.below.mono (HW5.out.trans (HBq.out.mono HW5.out.size)).size))
          clear hg8
          go_wp2
          go_ret
          exact ⟨rfl, HB8.out⟩
end Go.Proofs.YtphapjbfaomblaaDoor
