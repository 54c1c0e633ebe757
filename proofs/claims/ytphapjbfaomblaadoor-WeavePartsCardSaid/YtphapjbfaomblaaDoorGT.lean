/- The law WeaveParts, walked. -/
import Derived.Test.YtphapjbfaomblaaDoorGS
namespace Go.Proofs.YtphapjbfaomblaaDoor
open Go Go.RowKit
def PaRel (L S : List El) (w5 : World) (last i : Value) (wr : World) : Prop := ∃ (k : Nat) (z : Int), k ≤ S.length ∧ i = .int .i64 k ∧ last = .int .i64 z ∧ PartIs L S k z ∧ Below w5.heap.size w5 wr
theorem info24s : (Tryd.prog.info? 24).map (fun i => (i.zero, i.size, i.bytes)) = some (some (.agg #[.int .i64 0, .int .i64 0]), 2, 16) := by kernel_rfl
theorem stC_one1s (x : Stamp) : ∀ u ∈ stC x, u.oneCell' = true := by
  intro u hu
  simp [stC] at hu
  rcases hu with rfl | rfl <;> rfl
def sts (O : List Nd) : List Stamp := (els O).map (fun e => e.id.s)
theorem sts_len (O : List Nd) : (sts O).length = O.length := by simp [sts, els]
def AlRel (O : List Nd) (wo : World) (out i : Value) (wr : World) : Prop := ∃ k : Nat, k ≤ O.length ∧ i = .int .i64 k ∧ wr.ownsRow wo.heap.size 24 2 out k (((sts O).take k).flatMap stC) ∧ Below wo.heap.size wo wr
set_option maxRecDepth 100000 in
set_option maxHeartbeats 8000000 in
theorem parts_walk (R : List Rn) (on : List Stamp) (gone : List Id) (A A1 A2 : Option Addr) (n c n1 c1' n2 c2' : Nat) (w : World) (hR : Rd w w.heap.size 7 (.slice A n c) n (R.flatMap rnC)) (hR1 : Rd w w.heap.size 2 (.slice A1 n1 c1') n1 (on.flatMap stC)) (hR2 : Rd w w.heap.size 3 (.slice A2 n2 c2') n2 (gone.flatMap idC)) (hT : Tabs w) :
    Calls Tryd.prog 6 #[.slice A n c, .slice A1 n1 c1', .slice A2 n2 c2'] w fun e w' => e = .returned (.bool true) ∧ Below w.heap.size w w' := by
  have hal := len_of rnC 7 (fun _ => rfl) (by decide) hR.1
  subst hal
  have hal1 := len_of stC 2 (fun _ => rfl) (by decide) hR1.1
  subst hal1
  have hal2 := len_of idC 3 (fun _ => rfl) (by decide) hR2.1
  subst hal2
  have hl1 := hR1.len
  have hl2 := hR2.len
  unfold maxLen at hl1 hl2
  have HR := Lib.hid (fun W (hW : Below w.heap.size w W) => hR.below' hW (Nat.le_refl _))
  have HR1 := Lib.hid (fun W (hW : Below w.heap.size w W) => hR1.below' hW (Nat.le_refl _))
  have HR2 := Lib.hid (fun W (hW : Below w.heap.size w W) => hR2.below' hW (Nat.le_refl _))
  have HT := Lib.hid (fun W (hW : Below w.heap.size w W) => hT.below hW)
  clear hR hR1 hR2 hT
  go_enter Tryd.func6, Tryd.ntmps6
  go_wp2_with fail
  refine (awake_any w (HT.out w (Below.refl _ _))).mono ?_
  rintro e w1 ⟨rfl, hb1⟩
  have HB1 := Lib.hid hb1
  clear hb1
  go_wp2_with fail
  refine (few_any R 20 (by omega) A _ c w.heap.size w1 (HR.out w1 HB1.out)).mono ?_
  rintro e w1' ⟨⟨few, rfl, hfew⟩, rfl⟩
  cases few
  · go_wp2
    go_ret
    exact ⟨rfl, HB1.out⟩
  · obtain ⟨hR20, hR40⟩ := hfew rfl
    by_cases h60 : on.length ≤ 60
    · by_cases h100 : gone.length ≤ 100
      · have h6 : ((on.length : Nat) : Int) ≤ 60 := by omega
        have h1 : ((gone.length : Nat) : Int) ≤ 100 := by omega
        have hf1 : (flat R).length ≤ 100000 := by have := flat_size R 40 hR40; have := Nat.mul_le_mul_right 40 hR20; omega
        have HO1 := Lib.hid (order_any R A _ c w.heap.size w1' (HR.out w1' HB1.out) HB1.out.size (HT.out w1' HB1.out) hf1 (fun r hr => Nat.le_trans (hR40 r hr) (by omega)))
        have HF := Lib.hid hf1
        have HX := Lib.hid (fun r hr => Nat.le_trans (hR40 r hr) (show 40 ≤ 100000 by omega))
        clear hf1 hR20 hR40 hfew
        go_wp2_with fail
        refine HO1.out.mono ?_
        rintro e w2 ⟨O, v, hO, rfl, hv, hol, hb2⟩
        have hol2 : O.length ≤ 100000 := Nat.le_trans hol HF.out
        clear hol
        obtain ⟨Av, cv, rfl, _, _⟩ := (Rd.of_own hv).form
        have HO := Lib.hid hO
        have HB2 := Lib.hid (HB1.out.trans (hb2.mono HB1.out.size))
        have HV := Lib.hid (fun W (hW : Below w2.heap.size w2 W) => (Rd.of_own hv).below' hW (Nat.le_refl _))
        have HS := Lib.hid (seen_any R on gone A A1 A2 _ c _ c1' _ c2' w.heap.size w2 (HR.out w2 HB2.out) (HR1.out w2 HB2.out) (HR2.out w2 HB2.out) HB2.out.size (HT.out w2 HB2.out) HF.out HX.out (by omega) (by omega))
        clear hO hv hb2 HO1
        go_wp2_with fail
        refine HS.out.mono ?_
        rintro e w3 ⟨O', v3, hO', rfl, hv3, _, hb3⟩
        obtain rfl := ord_same HO.out hO'
        obtain ⟨As, cs, rfl, hsl, hcs⟩ := (Rd.of_own hv3).form
        unfold maxLen at hcs
        have hsl2 : (seenOf on gone O).length ≤ 9223372036854775807 := by omega
        clear hsl hcs
        have HB3 := Lib.hid (HB2.out.trans (hb3.mono HB2.out.size))
        have HB23 := Lib.hid hb3
        have HV3 := Lib.hid (fun W (hW : Below w3.heap.size w3 W) => (Rd.of_own hv3).below' hW (Nat.le_refl _))
        clear hO' hv3 hb3 HS
        obtain ⟨S, hS⟩ : ∃ S, seenOf on gone O = S := ⟨_, rfl⟩
        have HSub := Lib.hid (hS ▸ seen_sub on gone O)
        have HMem := Lib.hid (fun (e : El) (he : e ∈ S) => seen_mem (on := on) (gone := gone) (O := O) (e := e) (hS.symm ▸ he))
        rw [hS] at HV3 hsl2 ⊢
        clear hS
        go_wp2
        go_loopw [12, 13] (fun last i wr => PaRel (els O) S w3 last i wr) (fun _ i _ => S.length - (intOf i).toNat)
        case atStart => exact ⟨0, -1, Nat.zero_le _, rfl, rfl, .inl ⟨rfl, rfl⟩, Below.refl _ _⟩
        case round =>
          obtain ⟨k, z, hk, rfl, rfl, hz, hb⟩ := hrel
          obtain ⟨wo, rfl⟩ : ∃ wo : World, wo = wr := ⟨_, rfl⟩
          by_cases hlt : k < S.length
          · obtain ⟨b, o, rfl, hBb, hcell⟩ := rd_at idC 3 (fun _ => rfl) (by decide) (show Rd wo w3.heap.size 3 (.slice As (S.map El.id).length cs) (S.map El.id).length ((S.map El.id).flatMap idC) from by rw [List.length_map]; exact HV3.out wo hb) (show k < (S.map El.id).length by rw [List.length_map]; exact hlt)
            rw [List.getElem_map] at hcell
            have hat := at_any (ids O) S[k].id Av _ cv w2.heap.size wo (show Rd wo w2.heap.size 3 (.slice Av O.length cv) O.length ((ids O).flatMap idC) from HV.out wo (HB23.out.trans (hb.mono HB23.out.size))) (HB23.out.trans (hb.mono HB23.out.size)).size
            have hst := fun r (hr : AtIs (ids O) S[k].id r) => parts_step (L := els O) (ord_nodup HO.out) HSub.out hlt hz hr
            have hme := HMem.out S[k] (List.getElem_mem hlt)
            obtain ⟨x, hx⟩ : ∃ x, S[k].id = x := ⟨_, rfl⟩
            rw [hx] at hcell hat hst hme
            have hwb : Below w.heap.size w wo := HB3.out.trans (hb.mono HB3.out.size)
            have hpl : b < wo.heap.size := Nat.lt_of_lt_of_le hBb hb.size
            have c0 : wo.cell? ⟨b, o + k * 3, none⟩ = some (.int .i64 x.s.T) := hcell 0 _ rfl
            have c1 : wo.cell? ⟨b, o + k * 3 + 1, none⟩ = some (.int .i64 x.s.R) := hcell 1 _ rfl
            have c2 : wo.cell? ⟨b, o + k * 3 + 2, none⟩ = some (.int .i64 x.I) := hcell 2 _ rfl
            have i1 : (0 : Int) ≤ (k : Int) := by omega
            have i2 : (k : Int) < (S.length : Int) := by omega
            have HAT := Lib.hid hat
            have HSTEP := Lib.hid hst
            have HB := Lib.hid hb
            have HHS := Lib.hid (fun W (hW : Below w.heap.size w W) => hasStamp_any on x.s A1 _ c1' w.heap.size W (HR1.out W hW) hW.size)
            have HHI := Lib.hid (fun W (hW : Below w.heap.size w W) => hasId_any gone x A2 _ c2' w.heap.size W (HR2.out W hW) hW.size)
            have HWB := Lib.hid hwb
            have HME := Lib.hid hme
            unfold idV at HAT HHI
            unfold stV at HHS
            clear hcell hat hst hx hz hb hme hwb
            go_wp2_with fail
            refine HAT.out.mono ?_
            rintro e w6 ⟨⟨r, rfl, hr⟩, hg6⟩
            obtain ⟨hzr, hls⟩ := HSTEP.out r hr
            have HLS := Lib.hid hls
            have HB6 := Lib.hid (HB.out.trans (hg6.below.mono HB.out.size))
            have HWB6 := Lib.hid (HWB.out.trans (hg6.below.mono HWB.out.size))
            obtain ⟨hc6, _⟩ := bcell hg6.below
            have hnr : ¬ r ≤ z := by omega
            have d0 : w6.cell? ⟨b, o + k * 3, none⟩ = some (.int .i64 x.s.T) := (hc6 _ _ hpl).trans c0
            have d1 : w6.cell? ⟨b, o + k * 3 + 1, none⟩ = some (.int .i64 x.s.R) := (hc6 _ _ hpl).trans c1
            have d2 : w6.cell? ⟨b, o + k * 3 + 2, none⟩ = some (.int .i64 x.I) := (hc6 _ _ hpl).trans c2
            have hpl6 : b < w6.heap.size := Nat.lt_of_lt_of_le hpl hg6.below.size
            clear hr hls hg6 hc6 c0 c1 c2
            go_wp2_with fail
            refine (HHS.out w6 HWB6.out).mono ?_
            rintro e w7 ⟨rfl, hg7⟩
            obtain ⟨hc7, _⟩ := bcell hg7.below
            have e0 : w7.cell? ⟨b, o + k * 3, none⟩ = some (.int .i64 x.s.T) := (hc7 _ _ hpl6).trans d0
            have e1 : w7.cell? ⟨b, o + k * 3 + 1, none⟩ = some (.int .i64 x.s.R) := (hc7 _ _ hpl6).trans d1
            have e2 : w7.cell? ⟨b, o + k * 3 + 2, none⟩ = some (.int .i64 x.I) := (hc7 _ _ hpl6).trans d2
            have hd1 : decide (x.s ∈ on) = true := decide_eq_true HME.out.1
            have hd2 : decide (x ∈ gone) = false := decide_eq_false HME.out.2
            have HB7 := Lib.hid (HB6.out.trans (hg7.below.mono HB6.out.size))
            have HWB7 := Lib.hid (HWB6.out.trans (hg7.below.mono HWB6.out.size))
            rw [hd1]
            have HI7 := Lib.hid (HHI.out w7 HWB7.out)
            rw [hd2] at HI7
            clear hg7 hc7 d0 d1 d2 hd1 hd2
            go_wp2_with fail
            refine HI7.out.mono ?_
            rintro e w8 ⟨rfl, hg8⟩
            have HB8 := Lib.hid (HB7.out.trans (hg8.below.mono HB7.out.size))
            clear hg8 e0 e1 e2
            go_wp2
            go_roundw
            case rel => exact ⟨k + 1, r, by omega, by go_num, rfl, HLS.out, HB8.out⟩
            case measure => simp [intOf]; omega
          · have HB := Lib.hid (HB3.out.trans (hb.mono HB3.out.size))
            have HB2o := Lib.hid (HB23.out.trans (hb.mono HB23.out.size))
            clear hb hz
            go_wp2
            go_loopw [15, 16] (fun out i wr => AlRel O wo out i wr) (fun _ i _ => O.length - (intOf i).toNat)
            case atStart => exact ⟨0, Nat.zero_le _, rfl, World.ownsRow_nil _ _ _ _, Below.refl _ _⟩
            case round =>
              obtain ⟨m, hm, rfl, hA, hbm⟩ := hrel
              obtain ⟨Ax, cx, rfl, hLc, hcm2⟩ := (Rd.of_own hA).form
              have HA := Lib.hid hA
              clear hA hcm2
              obtain ⟨wq, rfl⟩ : ∃ wq : World, wq = wr := ⟨_, rfl⟩
              by_cases hlm : m < O.length
              · obtain ⟨b, o, rfl, hBb, hcell⟩ := rd_at idC 3 (fun _ => rfl) (by decide) (show Rd wq w2.heap.size 3 (.slice Av (ids O).length cv) (ids O).length ((ids O).flatMap idC) from by rw [ids_len]; exact HV.out wq (HB2o.out.trans (hbm.mono HB2o.out.size))) (show m < (ids O).length by rw [ids_len]; exact hlm)
                obtain ⟨x, hx⟩ : ∃ x, (ids O)[m]'(by rw [ids_len]; exact hlm) = x := ⟨_, rfl⟩
                rw [hx] at hcell
                have c0 : wq.cell? ⟨b, o + m * 3, none⟩ = some (.int .i64 x.s.T) := hcell 0 _ rfl
                have c1 : wq.cell? ⟨b, o + m * 3 + 1, none⟩ = some (.int .i64 x.s.R) := hcell 1 _ rfl
                have i1 : (0 : Int) ≤ (m : Int) := by omega
                have i2 : (m : Int) < (O.length : Int) := by omega
                have HBM := Lib.hid hbm
                have HTK := Lib.hid (show (sts O).take (m + 1) = (sts O).take m ++ [x.s] from by
                  rw [List.take_succ_eq_append_getElem (by rw [sts_len]; exact hlm), ← hx]
                  simp [sts, ids])
                clear hcell hbm hx
                obtain ⟨i0, hi, hz0, hz1, hz2⟩ := info_parts info24s
                go_wp2_with (at_builtin; refine wpList_append_own _ rfl _ _ 42 rfl wo.heap.size 24 i0 _ 2 16 Tryd.underlying42 hi hz0 hz1 hz2 rfl (by decide) _ _ _ rfl (HA.out.alloc _) ⟨wq.heap.size, 0, none⟩ 1 1 (stC x.s) rfl rfl ?qc2 (stC_one1s x.s) ?qc4 ?qc5 ?qc6 ?_)
                case qc2 => exact cells_new wq (stC x.s) 24
                case qc4 => unfold maxLen; omega
                case qc5 => omega
                case qc6 => have := HBM.out.size; simp; omega
                intro v' W4 hown hgrow _
                have hlen : ((sts O).take m).length = m := by rw [List.length_take, sts_len, Nat.min_eq_left hm]
                obtain ⟨g, cap, rfl, hgB, hgc, hgm, ho4⟩ := own_snoc (enc := stC) (show W4.ownsRow wo.heap.size 24 2 v' (((sts O).take m).length + 1) (((sts O).take m).flatMap stC ++ stC x.s) from by rw [hlen]; exact hown)
                rw [hlen] at hown hgc ⊢
                clear hlen
                have HB4 := Lib.hid ((HBM.out.alloc HBM.out.size (.cells #[.int .i64 x.s.T, .int .i64 x.s.R] 24)).grown hgrow (by have := HBM.out.size; simp; omega) (fun j hj => (HA.out.lt j hj).1))
                have HO4 := Lib.hid hown
                clear hown hgrow ho4 c0 c1
                go_wp2
                go_roundw
                case rel => exact ⟨m + 1, by omega, by go_num, by rw [HTK.out, List.flatMap_append]; simpa using HO4.out, HB4.out⟩
                case measure => simp [intOf]; omega
              · obtain rfl : m = O.length := by omega
                have hwq : Below w.heap.size w wq := HB.out.trans (hbm.mono HB.out.size)
                have hrow : Rd wq wq.heap.size 2 (.slice Ax O.length cx) O.length ((sts O).flatMap stC) := by
                  have := Rd.of_own HA.out
                  rwa [List.take_of_length_le (by rw [sts_len]; exact Nat.le_refl _)] at this
                have HS2 := Lib.hid (seen_any R (sts O) [] A Ax none _ c _ cx 0 0 wq.heap.size wq ((HR.out wq hwq).more hwq.size) hrow (Rd.nil _ _ _) (Nat.le_refl _) (HT.out wq hwq) HF.out HX.out (by rw [sts_len]; exact hol2) (by simp))
                have HBq := Lib.hid hwq
                have HB2q := Lib.hid (HB2o.out.trans (hbm.mono HB2o.out.size))
                clear hbm hwq hrow
                go_wp2_with fail
                refine HS2.out.mono ?_
                rintro e w9 ⟨O2, v9, hO2, rfl, hv9, _, hb9⟩
                obtain rfl := ord_same HO.out hO2
                have hsw : seenOf (sts O) [] O = els O := seen_whole O
                rw [hsw] at hv9 ⊢
                obtain ⟨A9, c9, rfl, _, _⟩ := (Rd.of_own hv9).form
                have HV9 := Lib.hid (show Rd w9 w9.heap.size 3 (.slice A9 (els O).length c9) (els O).length ((ids O).flatMap idC) from Rd.of_own hv9)
                have HV2 := Lib.hid (show Rd w9 w9.heap.size 3 (.slice Av O.length cv) O.length ((ids O).flatMap idC) from (HV.out w9 (HB2q.out.trans (hb9.mono HB2q.out.size))).more (HB2q.out.trans (hb9.mono HB2q.out.size)).size)
                have HB9 := Lib.hid (HBq.out.trans (hb9.mono HBq.out.size))
                clear hO2 hsw hv9 hb9 HS2
                go_wp2_with fail
                refine (sameId_any (ids O) (ids O) Av A9 _ cv _ c9 w9.heap.size w9 HV2.out HV9.out).mono ?_
                rintro e w10 ⟨rfl, hg10⟩
                have HB10 := Lib.hid (HB9.out.trans (hg10.below.mono HB9.out.size))
                rw [show decide (ids O = ids O) = true from decide_eq_true rfl]
                clear hg10
                go_wp2
                go_ret
                exact ⟨rfl, HB10.out⟩
      · have h1 : (100 : Int) < ((gone.length : Nat) : Int) := by omega
        have h6 : ((on.length : Nat) : Int) ≤ 60 := by omega
        go_wp2
        go_ret
        exact ⟨rfl, HB1.out⟩
    · have h6 : (60 : Int) < ((on.length : Nat) : Int) := by omega
      go_wp2
      go_ret
      exact ⟨rfl, HB1.out⟩
end Go.Proofs.YtphapjbfaomblaaDoor
