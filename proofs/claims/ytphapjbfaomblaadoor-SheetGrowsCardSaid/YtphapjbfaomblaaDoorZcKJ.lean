/- The document's sheet: Seen and Text. -/
import Derived.Test.YtphapjbfaomblaaDoorZcKE
import Derived.Test.YtphapjbfaomblaaDoorZcKC
import Derived.Test.YtphapjbfaomblaaDoorZcKD
import Derived.Test.YtphapjbfaomblaaDoorZb20
import Derived.Deep.RegionHeld3
namespace Go.Proofs.YtphapjbfaomblaaDoor
open Go Go.RowKit Go.Maps
def onR (s : Rs) : Stamp → Int := fun x => (s.on.count x : Int) - (s.off.count x : Int)
def gnR (s : Rs) : Id → Int := fun x => (s.go.count x : Int) - (s.re.count x : Int)
structure RsLe (s : Rs) : Prop where
  o : s.on.length ≤ 10000
  f : s.off.length ≤ 10000
  g : s.go.length ≤ 10000
  t : s.re.length ≤ 10000
def RseenPost (s : Rs) (w : World) (e : Ending) (w' : World) : Prop :=
  ∃ v O, e = .returned v ∧ OrderOf Id.Lt El.id El.af zeroI (Counts (flat s.R)) O ∧ w'.ownsRow w.heap.size 112 7 v (seenO O (onR s) (gnR s)).length ((seenO O (onR s) (gnR s)).flatMap reC) ∧ O.length ≤ (flat s.R).length ∧ Below w.heap.size w w'
def SeRelK (E : List El) (p : El → Bool) (w1 : World) (out i : Value) (wr : World) : Prop :=
  ∃ k : Nat, k ≤ E.length ∧ i = .int .i64 k ∧ wr.ownsRow w1.heap.size 112 7 out ((E.take k).filter p).length (((E.take k).filter p).flatMap reC) ∧ Below w1.heap.size w1 wr
theorem filter_yesK {E : List El} {p : El → Bool} {k : Nat} (h : k < E.length) (hp : p E[k] = true) : (E.take (k + 1)).filter p = (E.take k).filter p ++ [E[k]] := by
  rw [List.take_succ_eq_append_getElem h, List.filter_append]
  simp [hp]
theorem filter_noK {E : List El} {p : El → Bool} {k : Nat} (h : k < E.length) (hp : p E[k] = false) : (E.take (k + 1)).filter p = (E.take k).filter p := by
  rw [List.take_succ_eq_append_getElem h, List.filter_append]
  simp [hp]
set_option maxRecDepth 100000 in
set_option maxHeartbeats 8000000 in
theorem rseen_any {w : World} {rb : Nat} {v : RsV} {s : Rs} (h : RsIs w rb v s) (ho : RsOk s) (hl : RsLe s) :
    Calls Tryd.prog 32 #[.pointer (some ⟨rb, 0, none⟩)] w (RseenPost s w) := by
  obtain ⟨i0, hi, hz0, hz1, hz2⟩ := info_parts info112
  obtain ⟨lo, lf, lg, lt⟩ := hl
  obtain ⟨Ar, cr, hvr, _, _⟩ := (Rd.of_own h.r).form
  obtain ⟨Ao, co, hvo, _, _⟩ := (Rd.of_own h.o).form
  obtain ⟨Af, cf, hvf, _, _⟩ := (Rd.of_own h.f).form
  obtain ⟨Ag, cg, hvg, _, _⟩ := (Rd.of_own h.g).form
  obtain ⟨At, ct, hvt, _, _⟩ := (Rd.of_own h.t).form
  have hce := h.cell
  rw [hvr, hvo, hvf, hvg, hvt] at hce
  have hrr := Rd.of_own h.r
  have hro := Rd.of_own h.o
  have hrf := Rd.of_own h.f
  have hrg := Rd.of_own h.g
  have hrt := Rd.of_own h.t
  rw [hvr] at hrr
  rw [hvo] at hro
  rw [hvf] at hrf
  rw [hvg] at hrg
  rw [hvt] at hrt
  have HORD := Lib.hid (rorderAll_any s.R Ar s.R.length cr w.heap.size w hrr (Nat.le_refl _) (Nat.le_trans ho.fl (by omega)) ho.tx ho.I)
  have HST1 := Lib.hid (fun (x : Stamp) W (hW : Below w.heap.size w W) => stamps_any s.on x Ao s.on.length co w.heap.size W (hro.below' hW (Nat.le_refl _)) hW.size)
  have HST2 := Lib.hid (fun (x : Stamp) W (hW : Below w.heap.size w W) => stamps_any s.off x Af s.off.length cf w.heap.size W (hrf.below' hW (Nat.le_refl _)) hW.size)
  have HID1 := Lib.hid (fun (x : Id) W (hW : Below w.heap.size w W) => ids_any s.go x Ag s.go.length cg w.heap.size W (hrg.below' hW (Nat.le_refl _)) hW.size)
  have HID2 := Lib.hid (fun (x : Id) W (hW : Below w.heap.size w W) => ids_any s.re x At s.re.length ct w.heap.size W (hrt.below' hW (Nat.le_refl _)) hW.size)
  have hfl := ho.fl
  have hrb := (Array.getElem?_eq_some_iff.1 hce).1
  have r0 : w.cell? ⟨rb, 0, none⟩ = some (.slice Ar s.R.length cr) := cell_of_row _ _ 0 _ _ _ hce
  have HCE := Lib.hid (fun W (hW : Below w.heap.size w W) => (show W.cell? ⟨rb, 1, none⟩ = some (.slice Ao s.on.length co) ∧ W.cell? ⟨rb, 2, none⟩ = some (.slice Af s.off.length cf) ∧ W.cell? ⟨rb, 3, none⟩ = some (.slice Ag s.go.length cg) ∧ W.cell? ⟨rb, 4, none⟩ = some (.slice At s.re.length ct) from by
    have hh := (hW.block rb hrb).trans hce
    exact ⟨cell_of_row _ _ 1 _ _ _ hh, cell_of_row _ _ 2 _ _ _ hh, cell_of_row _ _ 3 _ _ _ hh, cell_of_row _ _ 4 _ _ _ hh⟩))
  have HP := Lib.hid (fun (x : Id) => (show seenI (onR s) (gnR s) x = (decide ((s.off.count x.s : Int) < (s.on.count x.s : Int)) && decide ((s.go.count x : Int) ≤ (s.re.count x : Int))) from by
    unfold seenI onR gnR
    congr 1
    · exact decide_eq_decide.2 (by omega)
    · exact decide_eq_decide.2 (by omega)))
  obtain ⟨no, hno⟩ : ∃ n, s.on.length = n := ⟨_, rfl⟩
  obtain ⟨nf, hnf⟩ : ∃ n, s.off.length = n := ⟨_, rfl⟩
  obtain ⟨ng, hng⟩ : ∃ n, s.go.length = n := ⟨_, rfl⟩
  obtain ⟨nt, hnt⟩ : ∃ n, s.re.length = n := ⟨_, rfl⟩
  obtain ⟨nr, hnr⟩ : ∃ n, s.R.length = n := ⟨_, rfl⟩
  rw [hno] at HST1 HCE
  rw [hnf] at HST2 HCE
  rw [hng] at HID1 HCE
  rw [hnt] at HID2 HCE
  rw [hnr] at HORD r0
  clear h ho hvr hvo hvf hvg hvt hce hrr hro hrf hrg hrt hrb hno hnf hng hnt hnr
  go_enter Tryd.func32, Tryd.ntmps32
  go_wp2_with fail
  refine HORD.out.mono ?_
  rintro e w1 ⟨v1, O, rfl, hO, hv1, hol, hb1⟩
  have hrow : w1.ownsRow w.heap.size 112 7 v1 (els O).length ((els O).flatMap reC) := by
    unfold els
    rw [List.length_map, List.flatMap_map]
    exact hv1
  have hso : seenO O (onR s) (gnR s) = (els O).filter (fun e => seenI (onR s) (gnR s) e.id) := rfl
  have hel : (els O).length ≤ 10000 := by unfold els; rw [List.length_map]; omega
  obtain ⟨E, hE⟩ : ∃ E, els O = E := ⟨_, rfl⟩
  rw [hE] at hrow hso hel
  obtain ⟨A1, c1, rfl, _, _⟩ := (Rd.of_own hrow).form
  have HOO := Lib.hid hO
  have HOL := Lib.hid hol
  have HSO := Lib.hid hso
  have HE := Lib.hid (fun W (hW : Below w1.heap.size w1 W) => (Rd.of_own hrow).below' hW (Nat.le_refl _))
  have HB1 := Lib.hid hb1
  clear hO hv1 hol hb1 hrow hso hE hfl HORD r0
  go_wp2
  go_loopw [4, 5] (fun out i wr => SeRelK E (fun e => seenI (onR s) (gnR s) e.id) w1 out i wr) (fun _ i _ => E.length - (intOf i).toNat)
  case atStart => exact ⟨0, Nat.zero_le _, rfl, World.ownsRow_nil _ _ _ _, Below.refl _ _⟩
  case round =>
    obtain ⟨k, hk, rfl, hO, hb⟩ := hrel
    obtain ⟨wo, rfl⟩ : ∃ wo : World, wo = wr := ⟨_, rfl⟩
    by_cases hlt : k < E.length
    · obtain ⟨b, o, rfl, hBb, hcell⟩ := rd_at reC 7 (fun _ => rfl) (by decide) (HE.out wo hb) hlt
      have hfy := fun hp => filter_yesK (p := fun e => seenI (onR s) (gnR s) e.id) hlt hp
      have hfn := fun hp => filter_noK (p := fun e => seenI (onR s) (gnR s) e.id) hlt hp
      obtain ⟨e, he⟩ : ∃ e, E[k] = e := ⟨_, rfl⟩
      rw [he] at hcell hfy hfn
      obtain ⟨M, hM⟩ : ∃ M, (E.take k).filter (fun e => seenI (onR s) (gnR s) e.id) = M := ⟨_, rfl⟩
      have hMl : M.length ≤ 10000 := by
        rw [← hM]
        refine Nat.le_trans (List.length_filter_le _ _) ?_
        rw [List.length_take]
        omega
      rw [hM] at hO hfy hfn
      obtain ⟨Av, cv, rfl, _, hcv⟩ := (Rd.of_own hO).form
      have hpx := HP.out e.id
      have HFY := Lib.hid hfy
      have HFN := Lib.hid hfn
      have HO := Lib.hid hO
      have HBo := Lib.hid hb
      have hbl : b < wo.heap.size := Nat.lt_of_lt_of_le hBb hb.size
      obtain ⟨x, hx⟩ : ∃ x, e.id = x := ⟨_, rfl⟩
      have d0 : wo.cell? ⟨b, o + k * 7, none⟩ = some (.int .i64 x.s.T) := by rw [← hx]; exact hcell 0 _ rfl
      have d1 : wo.cell? ⟨b, o + k * 7 + 1, none⟩ = some (.int .i64 x.s.R) := by rw [← hx]; exact hcell 1 _ rfl
      have d2 : wo.cell? ⟨b, o + k * 7 + 2, none⟩ = some (.int .i64 x.I) := by rw [← hx]; exact hcell 2 _ rfl
      obtain ⟨W1, hW1⟩ : ∃ W, wo.alloc (.cells #[.int .i64 x.s.T, .int .i64 x.s.R, .int .i64 x.I] 26) = W := ⟨_, rfl⟩
      have hb11 : Below wo.heap.size wo W1 := by rw [← hW1]; exact (Below.refl _ wo).alloc (Nat.le_refl _) _
      have hx1 : Box W1 wo.heap.size x := by rw [← hW1]; exact heap_alloc_new wo _
      obtain ⟨bx, hbx⟩ : ∃ z, wo.heap.size = z := ⟨_, rfl⟩
      rw [hbx] at hx1
      have hbx1 := (Array.getElem?_eq_some_iff.1 hx1).1
      have hww : Below w.heap.size w wo := HB1.out.trans (hb.mono HB1.out.size)
      have hwW : Below w.heap.size w W1 := hww.trans (hb11.mono hww.size)
      have hwWs := hwW.size
      have HCELL := Lib.hid (fun W (hW : Below W1.heap.size W1 W) j u (hu : (reC e)[j]? = some u) => (show W.cell? ⟨b, o + k * 7 + j, none⟩ = some u from
        ((hb11.trans (hW.mono hb11.size)).cell (p := ⟨b, o + k * 7 + j, none⟩) hbl).trans (hcell j u hu)))
      obtain ⟨p1, hp1⟩ : ∃ n, s.on.count x.s = n := ⟨_, rfl⟩
      obtain ⟨p2, hp2⟩ : ∃ n, s.off.count x.s = n := ⟨_, rfl⟩
      obtain ⟨p3, hp3⟩ : ∃ n, s.go.count x = n := ⟨_, rfl⟩
      obtain ⟨p4, hp4⟩ : ∃ n, s.re.count x = n := ⟨_, rfl⟩
      rw [hx, hp1, hp2, hp3, hp4] at hpx
      have HPX := Lib.hid hpx
      have HXE := Lib.hid hx
      have HP1 := Lib.hid hp1
      have HP2 := Lib.hid hp2
      have HWW := Lib.hid (fun W (hW : Below W1.heap.size W1 W) => hwW.trans (hW.mono hwWs))
      have HS1 := Lib.hid (fun W (hW : Below W1.heap.size W1 W) => (show Calls Tryd.prog 56 #[.slice Ao no co, .agg #[.int .i64 x.s.T, .int .i64 x.s.R]] W (fun e w' => e = .returned (.int .i64 (p1 : Nat)) ∧ Below W1.heap.size W1 w') from (HST1.out x.s W (hwW.trans (hW.mono hwWs))).mono (fun e w' hh => ⟨by rw [← hp1]; exact hh.1, hW.trans (hh.2.below.mono hW.size)⟩)))
      have HS2 := Lib.hid (fun W (hW : Below W1.heap.size W1 W) => (show Calls Tryd.prog 56 #[.slice Af nf cf, .agg #[.int .i64 x.s.T, .int .i64 x.s.R]] W (fun e w' => e = .returned (.int .i64 (p2 : Nat)) ∧ Below W1.heap.size W1 w') from (HST2.out x.s W (hwW.trans (hW.mono hwWs))).mono (fun e w' hh => ⟨by rw [← hp2]; exact hh.1, hW.trans (hh.2.below.mono hW.size)⟩)))
      have HS3 := Lib.hid (fun W (hW : Below W1.heap.size W1 W) => (show Calls Tryd.prog 57 #[.slice Ag ng cg, .agg #[.int .i64 x.s.T, .int .i64 x.s.R, .int .i64 x.I]] W (fun e w' => e = .returned (.int .i64 (p3 : Nat)) ∧ Below W1.heap.size W1 w') from (HID1.out x W (hwW.trans (hW.mono hwWs))).mono (fun e w' hh => ⟨by rw [← hp3]; exact hh.1, hW.trans (hh.2.below.mono hW.size)⟩)))
      have HS4 := Lib.hid (fun W (hW : Below W1.heap.size W1 W) => (show Calls Tryd.prog 57 #[.slice At nt ct, .agg #[.int .i64 x.s.T, .int .i64 x.s.R, .int .i64 x.I]] W (fun e w' => e = .returned (.int .i64 (p4 : Nat)) ∧ Below W1.heap.size W1 w') from (HID2.out x W (hwW.trans (hW.mono hwWs))).mono (fun e w' hh => ⟨by rw [← hp4]; exact hh.1, hW.trans (hh.2.below.mono hW.size)⟩)))
      have HC := Lib.hid (fun W (hW : Below W1.heap.size W1 W) => (show W.cell? ⟨rb, 1, none⟩ = some (.slice Ao no co) ∧ W.cell? ⟨rb, 2, none⟩ = some (.slice Af nf cf) ∧ W.cell? ⟨rb, 3, none⟩ = some (.slice Ag ng cg) ∧ W.cell? ⟨rb, 4, none⟩ = some (.slice At nt ct) ∧ W.cell? ⟨bx, 0, none⟩ = some (.int .i64 x.s.T) ∧ W.cell? ⟨bx, 1, none⟩ = some (.int .i64 x.s.R) ∧ W.cell? ⟨bx, 2, none⟩ = some (.int .i64 x.I) from by
        obtain ⟨a1, a2, a3, a4⟩ := HCE.out W (hwW.trans (hW.mono hwWs))
        have hbx' : Box W bx x := (hW.block bx hbx1).trans hx1
        exact ⟨a1, a2, a3, a4, hbx'.cells3⟩))
      have HW1 := Lib.hid hW1
      have HBX := Lib.hid hbx
      have HB11 := Lib.hid hb11
      have hw1o := hb.size
      have i1 : (0 : Int) ≤ (k : Int) := by omega
      have i2 : (k : Int) < (E.length : Int) := by omega
      have k1 : Below W1.heap.size W1 W1.drew := (Below.refl _ W1).drew
      clear hcell hfy hfn he hM hO hpx hx hp1 hp2 hp3 hp4 hW1 hb11 hx1 hbx hbx1 hww hwW hwWs hb
      go_upto_region 7 with (fail)
      rw [HW1.out, HBX.out]
      clear d0 d1 d2
      by_cases h1 : p2 < p1
      · by_cases h2 : p3 ≤ p4
        · have hpe := HFY.out (by rw [HXE.out, HPX.out, decide_eq_true (show (p2 : Int) < (p1 : Int) from by omega), decide_eq_true (show (p3 : Int) ≤ (p4 : Int) from by omega)]; rfl)
          have HPE := Lib.hid hpe
          clear hpe
          go_region_held3 (fun W => W.cell? ⟨rb, 1, none⟩ = some (.slice Ao no co) ∧ W.cell? ⟨rb, 2, none⟩ = some (.slice Af nf cf) ∧ W.cell? ⟨rb, 3, none⟩ = some (.slice Ag ng cg) ∧ W.cell? ⟨rb, 4, none⟩ = some (.slice At nt ct) ∧ W.cell? ⟨bx, 0, none⟩ = some (.int .i64 x.s.T) ∧ W.cell? ⟨bx, 1, none⟩ = some (.int .i64 x.s.R) ∧ W.cell? ⟨bx, 2, none⟩ = some (.int .i64 x.I))
            (first | exact HC.out _ (by assumption) | go_keep)
            (first
              | (go_at_call 56; first | with_reducible refine (HS1.out _ (by assumption)).mono ?_ | with_reducible refine (HS2.out _ (by assumption)).mono ?_
                 rintro e w9 ⟨rfl, k9⟩)
              | (go_at_call 57; first | with_reducible refine (HS3.out _ (by assumption)).mono ?_ | with_reducible refine (HS4.out _ (by assumption)).mono ?_
                 rintro e w9 ⟨rfl, k9⟩))
          have e0 : w9.cell? ⟨b, o + k * 7, none⟩ = some (.int .i64 e.id.s.T) := HCELL.out w9 k9 0 _ rfl
          have e1 : w9.cell? ⟨b, o + k * 7 + 1, none⟩ = some (.int .i64 e.id.s.R) := HCELL.out w9 k9 1 _ rfl
          have e2 : w9.cell? ⟨b, o + k * 7 + 2, none⟩ = some (.int .i64 e.id.I) := HCELL.out w9 k9 2 _ rfl
          have e3 : w9.cell? ⟨b, o + k * 7 + 3, none⟩ = some (.int .i64 e.af.s.T) := HCELL.out w9 k9 3 _ rfl
          have e4 : w9.cell? ⟨b, o + k * 7 + 4, none⟩ = some (.int .i64 e.af.s.R) := HCELL.out w9 k9 4 _ rfl
          have e5 : w9.cell? ⟨b, o + k * 7 + 5, none⟩ = some (.int .i64 e.af.I) := HCELL.out w9 k9 5 _ rfl
          have e6 : w9.cell? ⟨b, o + k * 7 + 6, none⟩ = some (.string e.pc) := HCELL.out w9 k9 6 _ rfl
          have hb9 : Below wo.heap.size wo w9 := HB11.out.trans (k9.mono HB11.out.size)
          have HO9 := Lib.hid (own_grows HO.out hb9)
          have HB9 := Lib.hid (HBo.out.trans (hb9.mono HBo.out.size))
          clear k9 k1 hb9 h1 h2
          go_wp2_with (at_builtin; refine wpList_append_own_at _ rfl _ _ 60 rfl w1.heap.size 112 i0 _ 7 64 Tryd.underlying60 hi hz0 hz1 hz2 rfl (by decide) _ M.length (M.flatMap reC) rfl (HO9.out.alloc (.cells (reC e).toArray 112)) ⟨w9.heap.size, 0, none⟩ 1 1 (reC e) rfl rfl ?qc (reC_one e) ?q2 ?q3 ?q4 ?_)
          case qc => exact fun j u h => cells_new w9 (reC e) 112 j u h
          case q2 => unfold maxLen; omega
          case q3 => omega
          case q4 => have := HB9.out.size; simp; omega
          intro v4 W4 hown4 hgrow4 _ _
          have HREL := Lib.hid (show SeRelK E (fun e => seenI (onR s) (gnR s) e.id) w1 v4 (.int .i64 ((k : Int) + 1)) W4 from ⟨k + 1, hlt, rfl, by rw [HPE.out, List.length_append, List.flatMap_append]; simpa using hown4, (HB9.out.alloc HB9.out.size (.cells (reC e).toArray 112)).grown hgrow4 (by have := HB9.out.size; simp; omega) (fun j hj => (HO9.out.lt j hj).1)⟩)
          clear hown4 hgrow4 e0 e1 e2 e3 e4 e5 e6
          go_wp2
          go_roundw
          case rel => exact HREL.out
          case measure => simp [intOf]; omega
        · go_region_held3 (fun W => W.cell? ⟨rb, 1, none⟩ = some (.slice Ao no co) ∧ W.cell? ⟨rb, 2, none⟩ = some (.slice Af nf cf) ∧ W.cell? ⟨rb, 3, none⟩ = some (.slice Ag ng cg) ∧ W.cell? ⟨rb, 4, none⟩ = some (.slice At nt ct) ∧ W.cell? ⟨bx, 0, none⟩ = some (.int .i64 x.s.T) ∧ W.cell? ⟨bx, 1, none⟩ = some (.int .i64 x.s.R) ∧ W.cell? ⟨bx, 2, none⟩ = some (.int .i64 x.I))
            (first | exact HC.out _ (by assumption) | go_keep)
            (first
              | (go_at_call 56; first | with_reducible refine (HS1.out _ (by assumption)).mono ?_ | with_reducible refine (HS2.out _ (by assumption)).mono ?_
                 rintro e w9 ⟨rfl, k9⟩)
              | (go_at_call 57; first | with_reducible refine (HS3.out _ (by assumption)).mono ?_ | with_reducible refine (HS4.out _ (by assumption)).mono ?_
                 rintro e w9 ⟨rfl, k9⟩))
          have HREL := Lib.hid (show SeRelK E (fun e => seenI (onR s) (gnR s) e.id) w1 (.slice Av M.length cv) (.int .i64 ((k : Int) + 1)) w9 from ⟨k + 1, hlt, rfl, by rw [HFN.out (by rw [HXE.out, HPX.out, decide_eq_false (show ¬ (p3 : Int) ≤ (p4 : Int) from by omega), Bool.and_false])]; exact own_grows HO.out (HB11.out.trans (k9.mono HB11.out.size)), HBo.out.trans ((HB11.out.trans (k9.mono HB11.out.size)).mono HBo.out.size)⟩)
          clear k9 k1
          go_wp2
          go_roundw
          case rel => exact HREL.out
          case measure => simp [intOf]; omega
      · have H1 := Lib.hid h1
        have hgb : ∀ n os, Below W1.heap.size W1 (Sort.grow (W1.drewN n) os) := fun n os => (show Grows W1 (Sort.grow (W1.drewN n) os) from ⟨n, os, rfl⟩).below
        have HG1 := Lib.hid (fun n os => (show Calls Tryd.prog 56 #[.slice Ao no co, .agg #[.int .i64 x.s.T, .int .i64 x.s.R]] (Sort.grow (W1.drewN n) os) (fun e w' => e = .returned (.int .i64 (p1 : Nat)) ∧ Grows (Sort.grow (W1.drewN n) os) w') from by
          have hh := HST1.out x.s _ (HWW.out _ (hgb n os))
          rw [HP1.out] at hh
          exact hh))
        have HG2 := Lib.hid (fun n os => (show Calls Tryd.prog 56 #[.slice Af nf cf, .agg #[.int .i64 x.s.T, .int .i64 x.s.R]] (Sort.grow (W1.drewN n) os) (fun e w' => e = .returned (.int .i64 (p2 : Nat)) ∧ Grows (Sort.grow (W1.drewN n) os) w') from by
          have hh := HST2.out x.s _ (HWW.out _ (hgb n os))
          rw [HP2.out] at hh
          exact hh))
        have q1 : ∀ n os, (Sort.grow (W1.drewN n) os).cell? ⟨rb, 1, none⟩ = some (.slice Ao no co) := fun n os => (HC.out _ (hgb n os)).1
        have q2 : ∀ n os, (Sort.grow (W1.drewN n) os).cell? ⟨rb, 2, none⟩ = some (.slice Af nf cf) := fun n os => (HC.out _ (hgb n os)).2.1
        have q3 : ∀ n os, (Sort.grow (W1.drewN n) os).cell? ⟨bx, 0, none⟩ = some (.int .i64 x.s.T) := fun n os => (HC.out _ (hgb n os)).2.2.2.2.1
        have q4 : ∀ n os, (Sort.grow (W1.drewN n) os).cell? ⟨bx, 1, none⟩ = some (.int .i64 x.s.R) := fun n os => (HC.out _ (hgb n os)).2.2.2.2.2.1
        clear hgb
        have hd1 : decide (p2 < p1) = false := decide_eq_false H1.out
        have hd2 : decide ((p2 : Int) < (p1 : Int)) = false := decide_eq_false (by have := H1.out; omega)
        refine region_grown (by kernel_rfl) (by kernel_rfl) ?_
        quiet_step (fail)
        quiet_step (fail)
        quiet_step (fail)
        quiet_step (fail)
        quiet_step (fail)
        quiet_step (fail)
        quiet_step ((go_at_call 56; exact grown_of_grows (HG1.out _ _)))
        quiet_step (fail)
        quiet_step (fail)
        quiet_step (fail)
        quiet_step (fail)
        quiet_step (fail)
        quiet_step (fail)
        quiet_step ((go_at_call 56; exact grown_of_grows (HG2.out _ _)))
        quiet_step (fail)
        go_big_quiet_step (fail)
        go_big_quiet_step (fail)
        go_big_quiet_step (fail)
        go_big_quiet_step (fail)
        go_big_quiet_step (fail)
        go_big_quiet_step (fail)
        go_big_quiet_step (fail)
        go_big_quiet_step (fail)
        go_big_quiet_step (fail)
        go_big_quiet_step (fail)
        go_big_quiet_step (fail)
        go_big_quiet_step (fail)
        go_big_quiet_step (fail)
        go_big_quiet_step (fail)
        go_big_quiet_step (fail)
        refine wpQuiet_nil ?_
        rintro w9 ⟨⟨nq, osq⟩, hW⟩
        have k9 : Below W1.heap.size W1 w9 := by rw [hW]; exact (show Grows W1 (Sort.grow (W1.drewN nq) osq) from ⟨nq, osq, rfl⟩).below
        clear hW q1 q2 q3 q4
        have HREL := Lib.hid (show SeRelK E (fun e => seenI (onR s) (gnR s) e.id) w1 (.slice Av M.length cv) (.int .i64 ((k : Int) + 1)) w9 from ⟨k + 1, hlt, rfl, by rw [HFN.out (by rw [HXE.out, HPX.out, decide_eq_false (show ¬ (p2 : Int) < (p1 : Int) from by have := H1.out; omega)]; rfl)]; exact own_grows HO.out (HB11.out.trans (k9.mono HB11.out.size)), HBo.out.trans ((HB11.out.trans (k9.mono HB11.out.size)).mono HBo.out.size)⟩)
        clear k9 k1
        go_wp2
        go_roundw
        case rel => exact HREL.out
        case measure => simp [intOf]; omega
    · obtain rfl : k = E.length := by omega
      obtain ⟨M, hM⟩ : ∃ M, E.filter (fun e => seenI (onR s) (gnR s) e.id) = M := ⟨_, rfl⟩
      rw [List.take_length, hM] at hO
      obtain ⟨Av, cv, rfl, _, _⟩ := (Rd.of_own hO).form
      have HF := Lib.hid (show RseenPost s w (.returned (.slice Av M.length cv)) wo from ⟨_, O, rfl, HOO.out, by rw [HSO.out, hM]; exact own_base hO HB1.out.size, HOL.out, HB1.out.trans (hb.mono HB1.out.size)⟩)
      clear hO hb hM
      go_wp2
      go_ret
      exact HF.out
theorem rstext_any {w : World} {rb : Nat} {v : RsV} {s : Rs} (h : RsIs w rb v s) (ho : RsOk s) (hl : RsLe s) {O : List Nd} (hO : OrderOf Id.Lt El.id El.af zeroI (Counts (flat s.R)) O) (htl : (txt (seenO O (onR s) (gnR s))).length ≤ 1000000000) :
    Calls Tryd.prog 30 #[.pointer (some ⟨rb, 0, none⟩)] w fun e w' => e = .returned (.string (ofL (txt (seenO O (onR s) (gnR s))))) ∧ Below w.heap.size w w' := by
  have HS := Lib.hid ((rseen_any h ho hl).mono (R' := fun e w' => ∃ v, e = .returned v ∧ w'.ownsRow w.heap.size 112 7 v (seenO O (onR s) (gnR s)).length ((seenO O (onR s) (gnR s)).flatMap reC) ∧ Below w.heap.size w w') (by
    rintro e w' ⟨v, O', rfl, h1, h2, _, h3⟩
    obtain rfl := order_unique idSTO h1 hO
    exact ⟨v, rfl, h2, h3⟩))
  obtain ⟨E, hE⟩ : ∃ E, seenO O (onR s) (gnR s) = E := ⟨_, rfl⟩
  rw [hE] at HS htl ⊢
  have HT := Lib.hid (fun A c W B (h : Rd W B 7 (.slice A E.length c) E.length (E.flatMap reC)) => rtext_any E A E.length c B W h htl)
  have HTE := Lib.hid htl
  obtain ⟨tx, htx⟩ : ∃ tx, ofL (txt E) = tx := ⟨_, rfl⟩
  rw [htx] at HT ⊢
  clear hE htx htl h ho hl hO
  go_enter Tryd.func30, Tryd.ntmps30
  go_wp2_with fail
  refine HS.out.mono ?_
  rintro e w1 ⟨v1, rfl, hv, hb⟩
  obtain ⟨A1, c1, rfl, _, _⟩ := (Rd.of_own hv).form
  have HV := Lib.hid (Rd.of_own hv)
  have HB := Lib.hid hb
  clear hv hb
  go_wp2_with fail
  refine (HT.out A1 c1 w1 _ HV.out).mono ?_
  rintro e w2 ⟨rfl, rfl⟩
  go_wp2
  go_ret
  exact ⟨rfl, HB.out⟩
end Go.Proofs.YtphapjbfaomblaaDoor
