/- The law SheetTurns, walked. -/
import Derived.Test.YtphapjbfaomblaaDoorZcLC
import Derived.Test.YtphapjbfaomblaaDoorZb25
import Derived.Test.YtphapjbfaomblaaDoorZcKC
import Derived.Test.YtphapjbfaomblaaDoorZcKD
namespace Go.Proofs.YtphapjbfaomblaaDoor
open Go Go.RowKit Go.Maps Go.ChangeMaps
structure SOk (p : Loc) (c : Nat) (L : List Pick) (I J : List Nat) (s : St) : Prop where
  p : s.p = p
  c : s.c = c
  F : s.F = zF L I
  on : AllOn L J s.on
  gn : s.gn = fun _ => 0
theorem act_add {w0 w : World} {p : Loc} {c : Nat} {L : List Pick} {I J : List Nat} {k : Nat} {s : St} (hs : SOk p c L I J s) (hI : ∀ i ∈ I, i < 15) (hk : k < 15) (hn : k ∉ I) (hT : Tabs w) (hc : c ≤ 3000) (P : Nat → Prop) (h : ShS w0 P s w) :
    Calls Tryd.prog 23 #[.pointer (some ⟨p.sh, 0, none⟩), rnU (zRun L k)] w fun e w' => ∃ s', (e = .returned (.int .i64 0) ∧ SOk p (c + 4) L (I ++ [k]) J s') ∧ ShS w0 P s' w' ∧ Tch w0 P w w' := by
  obtain ⟨p', c', F', O', on', gn'⟩ := s
  obtain ⟨h1, h2, h3, h4, h5⟩ := hs
  dsimp only at h1 h2 h3 h4 h5
  subst h1; subst h2; subst h3; subst h5
  refine (Sht.addZ h hI hk hn hT hc).mono ?_
  rintro e w' ⟨rfl, ⟨O', hS⟩, ht⟩
  exact ⟨⟨_, _, _, O', _, _⟩, ⟨rfl, rfl, rfl, rfl, h4, rfl⟩, hS, ht⟩
theorem act_set {w0 w : World} {p : Loc} {c : Nat} {L : List Pick} {I J : List Nat} {k : Nat} {s : St} (hs : SOk p c L I J s) (hc : c ≤ 3000) (P : Nat → Prop) (h : ShS w0 P s w) :
    Calls Tryd.prog 25 #[.pointer (some ⟨p.sh, 0, none⟩), stV (gS k (L.getD k zeroP)), .bool true] w fun e w' => ∃ s', ((∃ v, e = .returned v) ∧ SOk p (c + 1) L I (J ++ [k]) s') ∧ ShS w0 P s' w' ∧ Tch w0 P w w' := by
  obtain ⟨p', c', F', O', on', gn'⟩ := s
  obtain ⟨h1, h2, h3, h4, h5⟩ := hs
  dsimp only at h1 h2 h3 h4 h5
  subst h1; subst h2; subst h3; subst h5
  refine (Sht.set h (gS k (L.getD k zeroP)) true (by dsimp only; omega)).mono ?_
  rintro e w' ⟨hv, hS, ht⟩
  rw [if_pos rfl] at hS
  exact ⟨⟨_, _, _, O', _, _⟩, ⟨hv, rfl, rfl, rfl, allOn_next h4 k, rfl⟩, hS, ht⟩
theorem SOk.shift {p : Loc} {c c' : Nat} {L : List Pick} {I J : List Nat} {s : St} (h : SOk p c L I J s) (hc : c = c') : SOk p c' L I J s := hc ▸ h
theorem zE_len (L : List Pick) (k : Nat) : (zE L k).length ≤ 4 := by
  unfold zE
  rw [flatOf_len, gPs_len]
  exact gN_le _
theorem zF_len (L : List Pick) : ∀ I : List Nat, (zF L I).length ≤ 4 * I.length
  | [] => by simp [zF]
  | i :: I => by
    have h1 := zF_len L I
    have h2 := zE_len L i
    unfold zF at *
    rw [List.flatMap_cons, List.length_append, List.length_cons]
    omega
def zRuns (L : List Pick) (k : Nat) : List Rn := (List.range k).map (zRun L)
theorem zRuns_len (L : List Pick) (k : Nat) : (zRuns L k).length = k := by simp [zRuns]
theorem zRuns_get (L : List Pick) (k i : Nat) (h : i < (zRuns L k).length) : (zRuns L k)[i] = zRun L i := by simp [zRuns]
theorem zRuns_succ (L : List Pick) (k : Nat) : zRuns L (k + 1) = zRuns L k ++ [zRun L k] := by
  unfold zRuns
  rw [List.range_succ, List.map_append, List.map_singleton]
def ZRel (L : List Pick) (N : Nat) (w2 : World) (out i : Value) (wr : World) : Prop :=
  ∃ k : Nat, k ≤ N ∧ i = .int .i64 k ∧ wr.ownsRow w2.heap.size 28 7 out k ((zRuns L k).flatMap rnC) ∧ Below w2.heap.size w2 wr
def TwRel (L : List Pick) (N t : Nat) (w0 : World) (pa pb : Loc) (i : Value) (wr : World) : Prop :=
  ∃ k : Nat, k ≤ N ∧ i = .int .i64 k ∧ ∃ a b, Two w0 (fun _ => False) a b wr ∧ SOk pa (5 * k) L (List.range k) (List.range k) a ∧ SOk pb (5 * k) L ((List.range k).map (ix N t)) ((List.range k).map (ix N t)) b
set_option maxRecDepth 100000 in
set_option maxHeartbeats 8000000 in
theorem sturns_walk (L : List Pick) (x1 : Int) (A : Option Addr) (n c : Nat) (w : World) (hR : Rd w w.heap.size 3 (.slice A n c) n (L.flatMap pickC)) (hx1 : 0 ≤ x1 ∧ x1 ≤ 255) (hT : Tabs w) :
    Calls Tryd.prog 10 #[.slice A n c, .int .u8 x1] w fun e w' => e = .returned (.bool true) ∧ Below w.heap.size w w' := by
  have hal := len_of pickC 3 (fun _ => rfl) (by decide) hR.1
  subst hal
  obtain ⟨t, rfl⟩ : ∃ t : Nat, x1 = t := ⟨x1.toNat, by omega⟩
  have ht256 : t ≤ 255 := by omega
  have HR := Lib.hid (fun W (hW : Below w.heap.size w W) => hR.below' hW (Nat.le_refl _))
  have HT := Lib.hid (fun W (hW : Below w.heap.size w W) => hT.below hW)
  clear hR hT
  obtain ⟨j0, gi, gz0, gz1, gz2⟩ := info_parts info28
  go_enter Tryd.func10, Tryd.ntmps10
  go_wp2_with fail
  refine (lawake_any w (HT.out w (Below.refl _ w))).mono ?_
  rintro e w1 ⟨rfl, hb1⟩
  have HB1 := Lib.hid hb1
  clear hb1
  go_wp2_with fail
  refine (grown_any L A _ c w.heap.size w1 (HR.out w1 HB1.out) HB1.out.size).mono ?_
  rintro e w2 ⟨v, rfl, hown, hb2⟩
  obtain ⟨N, hN⟩ : ∃ N, min L.length 15 = N := ⟨_, rfl⟩
  have hN15 : N ≤ 15 := by omega
  rw [hN] at hown
  obtain ⟨Av, cv, rfl, _, hcm⟩ := (Rd.of_own hown).form
  unfold maxLen at hcm
  have HV := Lib.hid (fun W (hW : Below w2.heap.size w2 W) => (Rd.of_own hown).below' hW (Nat.le_refl _))
  have HB2 := Lib.hid (HB1.out.trans (hb2.mono HB1.out.size))
  clear hN hown hb2 HR
  go_wp2
  go_loopw [7, 8] (fun out i wr => ZRel L N w2 out i wr) (fun _ i _ => N - (intOf i).toNat)
  case atStart => exact ⟨0, Nat.zero_le _, rfl, World.ownsRow_nil _ _ _ _, Below.refl _ _⟩
  case round =>
    obtain ⟨k, hk, rfl, hO, hb⟩ := hrel
    obtain ⟨wo, rfl⟩ : ∃ wo : World, wo = wr := ⟨_, rfl⟩
    obtain ⟨Ax, cx, rfl, hLc, hcm2⟩ := (Rd.of_own hO).form
    unfold maxLen at hcm2
    have HO := Lib.hid hO
    have HBo := Lib.hid hb
    by_cases hlt : k < N
    · obtain ⟨b, o, rfl, hBb, hcell⟩ := rd_at rnC 7 (fun _ => rfl) (by decide) (show Rd wo w2.heap.size 7 (.slice Av (runsAt L N).length cv) (runsAt L N).length ((runsAt L N).flatMap rnC) from by rw [runsAt_len]; exact HV.out wo HBo.out) (show k < (runsAt L N).length by rw [runsAt_len]; exact hlt)
      rw [runsAt_get] at hcell
      have hzr : zRun L k = ⟨zeroI, (runAt L k).el, (runAt L k).tx⟩ := rfl
      have hbk := zRuns_succ L k
      rw [hzr] at hbk
      obtain ⟨r, hr⟩ : ∃ r, runAt L k = r := ⟨_, rfl⟩
      rw [hr] at hcell hbk
      have HBK := Lib.hid hbk
      have c0 : wo.cell? ⟨b, o + k * 7, none⟩ = some (.int .i64 r.af.s.T) := hcell 0 _ rfl
      have c1 : wo.cell? ⟨b, o + k * 7 + 1, none⟩ = some (.int .i64 r.af.s.R) := hcell 1 _ rfl
      have c2 : wo.cell? ⟨b, o + k * 7 + 2, none⟩ = some (.int .i64 r.af.I) := hcell 2 _ rfl
      have c3 : wo.cell? ⟨b, o + k * 7 + 3, none⟩ = some (.int .i64 r.el.s.T) := hcell 3 _ rfl
      have c4 : wo.cell? ⟨b, o + k * 7 + 4, none⟩ = some (.int .i64 r.el.s.R) := hcell 4 _ rfl
      have c5 : wo.cell? ⟨b, o + k * 7 + 5, none⟩ = some (.int .i64 r.el.I) := hcell 5 _ rfl
      have c6 : wo.cell? ⟨b, o + k * 7 + 6, none⟩ = some (.string r.tx) := hcell 6 _ rfl
      have i1 : (0 : Int) ≤ (k : Int) := by omega
      have i2 : (k : Int) < (N : Int) := by omega
      clear hcell hbk hr hzr hO hb
      go_wp2_with (at_builtin; refine wpList_append_own_at _ rfl _ _ 22 rfl w2.heap.size 28 j0 _ 7 64 Tryd.underlying22 gi gz0 gz1 gz2 rfl (by decide) _ k ((zRuns L k).flatMap rnC) rfl ((HO.out.alloc (.cells (rnC ⟨zeroI, r.el, r.tx⟩).toArray 28)).alloc (.cells (rnC ⟨zeroI, r.el, r.tx⟩).toArray 28)) ⟨wo.heap.size + 1, 0, none⟩ 1 1 (rnC ⟨zeroI, r.el, r.tx⟩) rfl rfl ?qc (rnC_one _) ?q2 ?q3 ?q4 ?_)
      case qc =>
        have := cells_new (wo.alloc (.cells (rnC ⟨zeroI, r.el, r.tx⟩).toArray 28)) (rnC ⟨zeroI, r.el, r.tx⟩) 28
        rw [World.size_alloc] at this
        exact this
      case q2 => unfold maxLen; omega
      case q3 => omega
      case q4 => have := HBo.out.size; simp; omega
      intro v7 W7 hown7 hgrow7 _ _
      have hb7 : Below w2.heap.size w2 W7 := ((HBo.out.alloc HBo.out.size (.cells (rnC ⟨zeroI, r.el, r.tx⟩).toArray 28)).alloc (by have := HBo.out.size; simp; omega) (.cells (rnC ⟨zeroI, r.el, r.tx⟩).toArray 28)).grown hgrow7 (by have := HBo.out.size; simp; omega) (fun j hj => (HO.out.lt j hj).1)
      have HREL := Lib.hid (show ZRel L N w2 v7 (.int .i64 ((k : Int) + 1)) W7 from ⟨k + 1, hlt, rfl, by rw [HBK.out, List.flatMap_append, List.flatMap_singleton]; exact hown7, hb7⟩)
      clear hown7 hgrow7 hb7 c0 c1 c2 c3 c4 c5 c6
      go_wp2
      go_roundw
      case rel => exact HREL.out
      case measure => simp [intOf]; omega
    · obtain rfl : k = N := by omega
      have hwo : Below w.heap.size w wo := HB2.out.trans (HBo.out.mono HB2.out.size)
      have HWO := Lib.hid hwo
      have HV0 := Lib.hid (fun W (hW : Below wo.heap.size wo W) => (Rd.of_own HO.out).below' hW (Nat.le_refl _))
      have hnew := Sht.new (w0 := wo) (P := fun _ => False) (Below.refl _ wo) (fun _ h => h.elim)
      have HNEW := Lib.hid hnew
      clear hnew hO hb hwo HO HV
      go_wp2_with fail
      refine HNEW.out.mono ?_
      rintro e w4 ⟨pa, rfl, hSa, hb4⟩
      obtain ⟨S, hS, hSa2⟩ := ShS.split (s := ⟨pa, 0, [], [], fun _ => 0, fun _ => 0⟩) hSa
      have hnew2 := Sht.new (w0 := wo) (w := w4) (P := fun k => S k ∨ False) hb4 (fun g hg => (hS g (hg.resolve_right id)).2.1)
      have HNEW2 := Lib.hid hnew2
      have HS := Lib.hid hS
      have HSA := Lib.hid hSa2
      clear hSa hb4 hS hSa2 hnew2 HNEW
      go_wp2_with fail
      refine HNEW2.out.mono ?_
      rintro e w5 ⟨pb, rfl, hSb, hb5⟩
      have HTW := Lib.hid (show TwRel L k t wo pa pb (.int .i64 0) w5 from ⟨0, Nat.zero_le _, rfl, ⟨pa, 0, [], [], fun _ => 0, fun _ => 0⟩, ⟨pb, 0, [], [], fun _ => 0, fun _ => 0⟩, Two.join HSA.out (fun g hg => ⟨(HS.out g hg).1, (HS.out g hg).2.1, id⟩) (fun _ h => h.elim) hb5 hSb, ⟨rfl, rfl, rfl, allOn_nil L, rfl⟩, ⟨rfl, rfl, rfl, allOn_nil L, rfl⟩⟩)
      clear hSb hb5 HSA HS HNEW2
      go_wp2
      go_loopw [12] (fun i wr => TwRel L k t wo pa pb i wr) (fun i _ => k - (intOf i).toNat)
      case atStart => exact HTW.out
      case round =>
        clear HTW
        obtain ⟨m, hm, rfl, a, b, hT2, hA, hB⟩ := hrel
        obtain ⟨wi, rfl⟩ : ∃ wi : World, wi = wr := ⟨_, rfl⟩
        have hbw := hT2.out
        by_cases hlm : m < k
        · obtain ⟨n1, hn1⟩ : ∃ z, k - 1 = z := ⟨_, rfl⟩
          obtain ⟨n2, hn2⟩ : ∃ z, n1 - m = z := ⟨_, rfl⟩
          obtain ⟨n3, hn3⟩ : ∃ z, n2 + t = z := ⟨_, rfl⟩
          obtain ⟨xi, hxi⟩ : ∃ z, n3 % k = z := ⟨_, rfl⟩
          have hix : ix k t m = xi := by unfold ix; rw [hn1, hn2, hn3, hxi]
          have hxl : xi < k := by rw [← hix]; exact ix_lt hlm
          have a1 : IntKind.i64.wrap ((k : Int) - 1) = (n1 : Int) := by rw [IntWalk.i64_in _ (by omega)]; omega
          have a2 : IntKind.i64.wrap ((n1 : Int) - (m : Int)) = (n2 : Int) := by rw [IntWalk.i64_in _ (by omega)]; omega
          have a3 : IntKind.i64.wrap (t : Int) = (t : Int) := IntWalk.i64_in _ (by omega)
          have a4 : IntKind.i64.wrap ((n2 : Int) + (t : Int)) = (n3 : Int) := by rw [IntWalk.i64_in _ (by omega)]; omega
          have m1 : Int.tmod (n3 : Int) (k : Int) = (xi : Int) := by rw [Int.tmod_eq_emod_of_nonneg (by omega), ← hxi]; rfl
          have hN0 : ¬ k = 0 := by omega
          have i1 : (0 : Int) ≤ (xi : Int) := by omega
          have i2 : (xi : Int) < (k : Int) := by omega
          have i3 : (0 : Int) ≤ (m : Int) := by omega
          have i4 : (m : Int) < (k : Int) := by omega
          have hRw := HV0.out wi hbw
          obtain ⟨gb, ob, rfl, hBb, hcx⟩ := rd_at rnC 7 (fun _ => rfl) (by decide) (show Rd wi wo.heap.size 7 (.slice Ax (zRuns L k).length cx) (zRuns L k).length ((zRuns L k).flatMap rnC) from by rw [zRuns_len]; exact hRw) (show xi < (zRuns L k).length by rw [zRuns_len]; exact hxl)
          obtain ⟨gb2, ob2, he2, _, hcm3⟩ := rd_at rnC 7 (fun _ => rfl) (by decide) (show Rd wi wo.heap.size 7 (.slice (some ⟨gb, ob, none⟩) (zRuns L k).length cx) (zRuns L k).length ((zRuns L k).flatMap rnC) from by rw [zRuns_len]; exact hRw) (show m < (zRuns L k).length by rw [zRuns_len]; exact hlm)
          injection he2 with he2
          injection he2 with he3 he4
          subst he3; subst he4
          rw [zRuns_get] at hcx hcm3
          have hel : ∀ i, (zRun L i).el.s = gS i (L.getD i zeroP) := fun _ => rfl
          have hnx : xi ∉ (List.range m).map (ix k t) := by
            rw [← hix]
            intro h
            obtain ⟨i, hi, h1⟩ := List.mem_map.1 h
            have hi' := List.mem_range.1 hi
            have := ix_inj (by omega) hlm h1
            omega
          have hbsucc : (List.range (m + 1)).map (ix k t) = (List.range m).map (ix k t) ++ [xi] := by rw [List.range_succ, List.map_append, List.map_singleton, hix]
          have hIb : ∀ i ∈ (List.range m).map (ix k t), i < 15 := fun i hi => by
            obtain ⟨j, hj, rfl⟩ := List.mem_map.1 hi
            have hj' := List.mem_range.1 hj
            have := ix_lt (n := k) (t := t) (i := j) (by omega)
            omega
          have HNX := Lib.hid hnx
          have HBS := Lib.hid hbsucc
          have HIB := Lib.hid hIb
          obtain ⟨rx, hrx⟩ : ∃ r, zRun L xi = r := ⟨_, rfl⟩
          obtain ⟨rm, hrm⟩ : ∃ r, zRun L m = r := ⟨_, rfl⟩
          have hex := hel xi
          have hem := hel m
          rw [hrx] at hcx hex
          rw [hrm] at hcm3 hem
          have HEX := Lib.hid hex
          have HEM := Lib.hid hem
          have HRX := Lib.hid hrx
          have HRM := Lib.hid hrm
          have hgb : gb < wo.heap.size := hBb
          have HCX := Lib.hid (fun W (hW : Below wo.heap.size wi W) j u (hu : (rnC rx)[j]? = some u) => (hW.cell (p := ⟨gb, ob + xi * 7 + j, none⟩) hgb).trans (hcx j u hu))
          have HCM := Lib.hid (fun W (hW : Below wo.heap.size wi W) j u (hu : (rnC rm)[j]? = some u) => (hW.cell (p := ⟨gb, ob + m * 7 + j, none⟩) hgb).trans (hcm3 j u hu))
          have c0 : wi.cell? ⟨gb, ob + xi * 7, none⟩ = some (.int .i64 rx.af.s.T) := hcx 0 _ rfl
          have c1 : wi.cell? ⟨gb, ob + xi * 7 + 1, none⟩ = some (.int .i64 rx.af.s.R) := hcx 1 _ rfl
          have c2 : wi.cell? ⟨gb, ob + xi * 7 + 2, none⟩ = some (.int .i64 rx.af.I) := hcx 2 _ rfl
          have c3 : wi.cell? ⟨gb, ob + xi * 7 + 3, none⟩ = some (.int .i64 rx.el.s.T) := hcx 3 _ rfl
          have c4 : wi.cell? ⟨gb, ob + xi * 7 + 4, none⟩ = some (.int .i64 rx.el.s.R) := hcx 4 _ rfl
          have c5 : wi.cell? ⟨gb, ob + xi * 7 + 5, none⟩ = some (.int .i64 rx.el.I) := hcx 5 _ rfl
          have c6 : wi.cell? ⟨gb, ob + xi * 7 + 6, none⟩ = some (.string rx.tx) := hcx 6 _ rfl
          obtain ⟨W1, hW1⟩ : ∃ W, wi.alloc (.cells #[.int .i64 rx.af.s.T, .int .i64 rx.af.s.R, .int .i64 rx.af.I, .int .i64 rx.el.s.T, .int .i64 rx.el.s.R, .int .i64 rx.el.I, .string rx.tx] 28) = W := ⟨_, rfl⟩
          have hb1 : Below wi.heap.size wi W1 := by rw [← hW1]; exact (Below.refl _ wi).alloc (Nat.le_refl _) _
          have hx1 : W1.heap[wi.heap.size]? = some (.cells #[.int .i64 rx.af.s.T, .int .i64 rx.af.s.R, .int .i64 rx.af.I, .int .i64 rx.el.s.T, .int .i64 rx.el.s.R, .int .i64 rx.el.I, .string rx.tx] 28 (0, 0)) := by rw [← hW1]; exact heap_alloc_new wi _
          obtain ⟨bR, hbR⟩ : ∃ z, wi.heap.size = z := ⟨_, rfl⟩
          rw [hbR] at hx1
          have hT3 : Two wo (fun g => g = bR) a b W1 := hT2.go (Below.touch hb1 _) (fun g hg => .inr ⟨by omega, by rw [hg]; exact (Array.getElem?_eq_some_iff.1 hx1).1⟩)
          have hws := hbw.size
          have HB1w := Lib.hid (hb1.mono hws)
          have HX1 := Lib.hid hx1
          have HW1 := Lib.hid hW1
          have HBR := Lib.hid hbR
          have hwbR : wo.heap.size ≤ bR := by omega
          have d0 : W1.cell? ⟨gb, ob + m * 7, none⟩ = some (.int .i64 rm.af.s.T) := HCM.out W1 HB1w.out 0 _ rfl
          have d1 : W1.cell? ⟨gb, ob + m * 7 + 1, none⟩ = some (.int .i64 rm.af.s.R) := HCM.out W1 HB1w.out 1 _ rfl
          have d2 : W1.cell? ⟨gb, ob + m * 7 + 2, none⟩ = some (.int .i64 rm.af.I) := HCM.out W1 HB1w.out 2 _ rfl
          have d3 : W1.cell? ⟨gb, ob + m * 7 + 3, none⟩ = some (.int .i64 rm.el.s.T) := HCM.out W1 HB1w.out 3 _ rfl
          have d4 : W1.cell? ⟨gb, ob + m * 7 + 4, none⟩ = some (.int .i64 rm.el.s.R) := HCM.out W1 HB1w.out 4 _ rfl
          have d5 : W1.cell? ⟨gb, ob + m * 7 + 5, none⟩ = some (.int .i64 rm.el.I) := HCM.out W1 HB1w.out 5 _ rfl
          have d6 : W1.cell? ⟨gb, ob + m * 7 + 6, none⟩ = some (.string rm.tx) := HCM.out W1 HB1w.out 6 _ rfl
          have hadd := hT3.actA (act_add hA (k := m) (fun i hi => by have := List.mem_range.1 hi; omega) (by omega) (fun h => by have := List.mem_range.1 h; omega) (HT.out W1 (HWO.out.trans (hT3.out.mono HWO.out.size))) (by omega))
          rw [hrm] at hadd
          unfold rnU at hadd
          have HADD := Lib.hid hadd
          clear hcx hcm3 hel hnx hbsucc hIb hex hem hrx hrm hW1 hb1 hx1 hbR hT3 hadd hRw hbw hA hT2 hix hn1 hn2 hn3 hxi
          go_upto_region 19 with (fail)
          rw [HW1.out, HBR.out]
          clear c0 c1 c2 c3 c4 c5 c6
          go_wp2_with fail
          refine HADD.out.mono ?_
          rintro e w6 ⟨a6, ⟨rfl, hA6⟩, hT6, ht6⟩
          have hb6 : Below wo.heap.size wi w6 := HB1w.out.trans (ht6.below (Nat.le_trans hws HB1w.out.size) (fun x hx h => by omega))
          have hx6 := block_touch HX1.out ht6 (fun hs => hs.2 rfl)
          have e3 : w6.cell? ⟨gb, ob + m * 7 + 3, none⟩ = some (.int .i64 rm.el.s.T) := HCM.out w6 hb6 3 _ rfl
          have e4 : w6.cell? ⟨gb, ob + m * 7 + 3 + 1, none⟩ = some (.int .i64 rm.el.s.R) := HCM.out w6 hb6 4 _ rfl
          have hset := hT6.actA (act_set hA6 (k := m) (by omega))
          rw [← HEM.out] at hset
          unfold stV at hset
          have HSET := Lib.hid hset
          have HB6 := Lib.hid hb6
          have HX6 := Lib.hid hx6
          clear d0 d1 d2 d3 d4 d5 d6 hA6 hT6 ht6 hb6 hx6 hset HADD
          go_wp2_with fail
          refine HSET.out.mono ?_
          rintro e w7 ⟨a7, ⟨⟨_, rfl⟩, hA7⟩, hT7, ht7⟩
          have hb7 : Below wo.heap.size wi w7 := HB6.out.trans (ht7.below (Nat.le_trans hws HB6.out.size) (fun x hx h => by omega))
          have hx7 := block_touch HX6.out ht7 (fun hs => hs.2 rfl)
          have x3 : w7.cell? ⟨bR, 3, none⟩ = some (.int .i64 rx.el.s.T) := cell_of_row _ _ 3 _ _ _ hx7
          have x4 : w7.cell? ⟨bR, 4, none⟩ = some (.int .i64 rx.el.s.R) := cell_of_row _ _ 4 _ _ _ hx7
          have hset2 := hT7.actB (act_set hB (k := xi) (by omega))
          rw [← HEX.out] at hset2
          unfold stV at hset2
          have HSET2 := Lib.hid hset2
          have HB7 := Lib.hid hb7
          have HX7 := Lib.hid hx7
          have HA7 := Lib.hid hA7
          clear e3 e4 hA7 hT7 ht7 hb7 hx7 hset2 HSET hB
          go_wp2_with fail
          refine HSET2.out.mono ?_
          rintro e w8 ⟨b8, ⟨⟨_, rfl⟩, hB8⟩, hT8, ht8⟩
          have hb8 : Below wo.heap.size wi w8 := HB7.out.trans (ht8.below (Nat.le_trans hws HB7.out.size) (fun x hx h => by omega))
          have hx8 := block_touch HX7.out ht8 (fun hs => hs.2 rfl)
          have x0 : w8.cell? ⟨bR, 0, none⟩ = some (.int .i64 rx.af.s.T) := cell_of_row _ _ 0 _ _ _ hx8
          have x1 : w8.cell? ⟨bR, 1, none⟩ = some (.int .i64 rx.af.s.R) := cell_of_row _ _ 1 _ _ _ hx8
          have x2 : w8.cell? ⟨bR, 2, none⟩ = some (.int .i64 rx.af.I) := cell_of_row _ _ 2 _ _ _ hx8
          have x3' : w8.cell? ⟨bR, 3, none⟩ = some (.int .i64 rx.el.s.T) := cell_of_row _ _ 3 _ _ _ hx8
          have x4' : w8.cell? ⟨bR, 4, none⟩ = some (.int .i64 rx.el.s.R) := cell_of_row _ _ 4 _ _ _ hx8
          have x5 : w8.cell? ⟨bR, 5, none⟩ = some (.int .i64 rx.el.I) := cell_of_row _ _ 5 _ _ _ hx8
          have x6 : w8.cell? ⟨bR, 6, none⟩ = some (.string rx.tx) := cell_of_row _ _ 6 _ _ _ hx8
          have hadd2 := hT8.actB (act_add hB8 (k := xi) HIB.out (by omega) HNX.out (HT.out w8 (HWO.out.trans (hT8.out.mono HWO.out.size))) (by omega))
          rw [HRX.out] at hadd2
          unfold rnU at hadd2
          have HADD2 := Lib.hid hadd2
          clear x3 x4 hB8 hT8 ht8 hb8 hx8 hadd2 HSET2
          go_wp2_with fail
          refine HADD2.out.mono ?_
          rintro e w9 ⟨b9, ⟨rfl, hB9⟩, hT9, ht9⟩
          have HREL := Lib.hid (show TwRel L k t wo pa pb (.int .i64 ((m : Int) + 1)) w9 from ⟨m + 1, hlm, rfl, a7, b9, hT9.go (Touch.refl _ _) (fun g hg => hg.elim), by rw [List.range_succ]; exact HA7.out.shift (by omega), by rw [HBS.out]; exact hB9.shift (by omega)⟩)
          clear x0 x1 x2 x3' x4' x5 x6 hB9 hT9 ht9 HADD2
          go_wp2
          go_roundw
          case rel => exact HREL.out
          case measure => simp [intOf]; omega
        · obtain rfl : m = k := by omega
          obtain ⟨S, hSa, hSb, _, _⟩ := hT2
          obtain ⟨pa', ca, Fa, Oa, ona, gna⟩ := a
          obtain ⟨pb', cb, Fb, Ob, onb, gnb⟩ := b
          obtain ⟨a1, a2, a3, a4, a5⟩ := hA
          obtain ⟨b1, b2, b3, b4, b5⟩ := hB
          dsimp only at a1 a2 a3 a4 a5 b1 b2 b3 b4 b5
          subst a1; subst a2; subst a3; subst a5; subst b1; subst b2; subst b3; subst b5
          have hSa : Sht wo _ pa' (5 * m) (zF L (List.range m)) Oa ona (fun _ => 0) wi := hSa
          have hSb : Sht wo _ pb' (5 * m) (zF L ((List.range m).map (ix m t))) Ob onb (fun _ => 0) wi := hSb
          have hmem : (fun e => e ∈ zF L ((List.range m).map (ix m t))) = fun e => e ∈ zF L (List.range m) := by
            funext e
            refine propext ?_
            unfold zF
            rw [List.mem_flatMap, List.mem_flatMap]
            exact ⟨fun ⟨i, hi, h⟩ => ⟨i, (ix_perm m t).mem_iff.1 hi, h⟩, fun ⟨i, hi, h⟩ => ⟨i, (ix_perm m t).mem_iff.2 hi, h⟩⟩
          have hob := hSb.order
          rw [hmem] at hob
          obtain rfl := order_unique idSTO hob hSa.order
          have hsa := allOn_seen hSa a4
          have hsb := allOn_seen hSb b4
          have htl := hSa.txt (zF_pc)
          rw [hsa] at htl
          have HTA := Lib.hid (fun W (hW : Below wi.heap.size wi W) => (hSa.below hW).text (by omega) (by rw [hsa]; omega))
          have HTB := Lib.hid (fun W (hW : Below wi.heap.size wi W) => (hSb.below hW).text (by omega) (by rw [hsb]; omega))
          rw [hsa] at HTA
          rw [hsb] at HTB
          have hcn := counts_of_names hSa.names.1
          have hfz : flat (zRuns L m) = zF L (List.range m) := zF_flat L (List.range m)
          have hzl := zF_len L (List.range m)
          rw [List.length_range] at hzl
          have HORD := Lib.hid (fun W (hW : Below wi.heap.size wi W) => (rorderAll_any (zRuns L m) Ax m cx wo.heap.size W (HV0.out W (hbw.trans (hW.mono hbw.size))) (hbw.trans (hW.mono hbw.size)).size (by rw [hfz]; omega) (fun r hr => by
              obtain ⟨i, _, rfl⟩ := List.mem_map.1 hr
              show (ofL _).size ≤ _
              rw [ofL_size, gT_len]
              have := gN_le (L.getD i zeroP)
              omega) (fun r hr => by
              obtain ⟨i, _, rfl⟩ := List.mem_map.1 hr
              exact ⟨Int.le_refl _, show ((0 % 8 : Nat) : Int) ≤ 1000000 by decide⟩)).mono (R' := fun e w' => ∃ v, e = .returned v ∧ w'.ownsRow W.heap.size 112 7 v Ob.length ((els Ob).flatMap reC) ∧ Below W.heap.size W w') (by
            rintro e w' ⟨v, O', rfl, h1, h2, _, h3⟩
            rw [hfz, hcn] at h1
            obtain rfl := order_unique idSTO h1 hSa.order
            refine ⟨v, rfl, ?_, h3⟩
            unfold els
            rw [List.flatMap_map]
            exact h2))
          have hte : (txt (els Ob)).length ≤ 1000000000 := by
            show (txt (Ob.map (·.2))).length ≤ _
            omega
          have HTX := Lib.hid (fun A' c' W B (h : Rd W B 7 (.slice A' Ob.length c') Ob.length ((els Ob).flatMap reC)) => rtext_any (els Ob) A' Ob.length c' B W h hte)
          have hte2 : ofL (txt (els Ob)) = ofL (txt (Ob.map (·.2))) := rfl
          rw [hte2] at HTX
          obtain ⟨tx, htx⟩ : ∃ tx, ofL (txt (Ob.map (·.2))) = tx := ⟨_, rfl⟩
          rw [htx] at HTA HTB HTX
          have hbe : (tx.toList == tx.toList) = true := beq_self_eq_true _
          have k0 : Below wi.heap.size wi wi := Below.refl _ _
          have HBW := Lib.hid hbw
          clear hSa hSb hob hmem hsa hsb htl hcn hfz hzl hte hte2 htx hbw a4 b4
          go_wp2_with fail
          refine (HTA.out wi k0).mono ?_
          rintro e w6 ⟨rfl, k1⟩
          go_wp2_with fail
          refine (HTB.out w6 k1).mono ?_
          rintro e w7 ⟨rfl, hb7⟩
          have k2 := k1.trans (hb7.mono k1.size)
          go_wp2_with fail
          refine (HTA.out w7 k2).mono ?_
          rintro e w8 ⟨rfl, hb8⟩
          have k3 := k2.trans (hb8.mono k2.size)
          go_wp2_with fail
          refine (HORD.out w8 k3).mono ?_
          rintro e w9 ⟨v9, rfl, hv9, hb9⟩
          obtain ⟨A9, c9, rfl, _, _⟩ := (Rd.of_own hv9).form
          have HR9 := Lib.hid (Rd.of_own hv9)
          have HB9 := Lib.hid (k3.trans (hb9.mono k3.size))
          clear hv9 hb9 hb7 hb8
          go_wp2_with fail
          refine (HTX.out A9 c9 w9 _ HR9.out).mono ?_
          rintro e w10 ⟨rfl, rfl⟩
          go_wp2
          go_ret
          exact ⟨rfl, HWO.out.trans ((HBW.out.trans (HB9.out.mono HBW.out.size)).mono HWO.out.size)⟩
end Go.Proofs.YtphapjbfaomblaaDoor
