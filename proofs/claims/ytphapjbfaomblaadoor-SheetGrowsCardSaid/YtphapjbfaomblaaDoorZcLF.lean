/- The law SheetGrows, walked. -/
import Derived.Test.YtphapjbfaomblaaDoorZcLE
import Derived.Test.YtphapjbfaomblaaDoorZb25
namespace Go.Proofs.YtphapjbfaomblaaDoor
open Go Go.RowKit Go.Maps Go.ChangeMaps
def r0 : Rs := ⟨[], [], [], [], []⟩
def v0 : RsV := ⟨.slice none 0 0, .slice none 0 0, .slice none 0 0, .slice none 0 0, .slice none 0 0⟩
theorem rs_start {w w' : World} {rb : Nat} (h : w.heap[rb]? = some (.cells #[.slice none 0 0, .slice none 0 0, .slice none 0 0, .slice none 0 0, .slice none 0 0] 53 (0, 0))) (hb : Below w.heap.size w w') : RsIs w' rb v0 r0 where
  cell := (hb.block rb (Array.getElem?_eq_some_iff.1 h).1).trans h
  r := World.ownsRow_nil _ _ _ _
  o := World.ownsRow_nil _ _ _ _
  f := World.ownsRow_nil _ _ _ _
  g := World.ownsRow_nil _ _ _ _
  t := World.ownsRow_nil _ _ _ _
  of := fun g hg => by cases hg
  gt := fun g hg => by cases hg
theorem rfoot0 {rb k : Nat} (h : rfoot rb v0 k) : k = rb := by
  rcases h with h | h | h | h | h | h
  · exact h
  all_goals cases h
theorem gok_add {p : Loc} {cn : Nat} {L : List Pick} {k : Nat} {r : Rs} {s s' : St} (h : GOk p cn L k r s) (h1 : s'.p = p ∧ s'.c = cn + 4 ∧ s'.F = flatAt L (k + 1) ∧ s'.on = onR r ∧ s'.gn = gnR r) : GOk p (cn + 4) L (k + 1) { r with R := r.R ++ [runAt L k] } s' where
  p := h1.1
  c := h1.2.1
  F := h1.2.2.1
  on := h1.2.2.2.1
  gn := h1.2.2.2.2
  R := by
    show r.R ++ [runAt L k] = _
    rw [h.R]
    rfl
  le := ⟨Nat.le_trans h.le.1 (by omega), Nat.le_trans h.le.2.1 (by omega), Nat.le_trans h.le.2.2.1 (by omega), Nat.le_trans h.le.2.2.2 (by omega)⟩
theorem GOk.more {p : Loc} {cn cn' : Nat} {L : List Pick} {k : Nat} {r : Rs} {s : St} (h : GOk p cn L k r s) (hc : cn ≤ cn') : GOk p cn' L k r { s with c := cn' } := ⟨h.p, rfl, h.F, h.on, h.gn, h.R, ⟨Nat.le_trans h.le.1 hc, Nat.le_trans h.le.2.1 hc, Nat.le_trans h.le.2.2.1 hc, Nat.le_trans h.le.2.2.2 hc⟩⟩
theorem Pr.more {w0 w : World} {Q : Nat → Prop} {s : St} {rb : Nat} {r : Rs} (h : Pr w0 Q s rb r w) {c' : Nat} (hc : s.c ≤ c') : Pr w0 Q { s with c := c' } rb r w := by
  obtain ⟨v, h1, h2, h3, h4⟩ := h
  exact ⟨v, h1, Sht.more h2 hc, h3, h4⟩
theorem g_start (p : Loc) (L : List Pick) : GOk p 0 L 0 r0 ⟨p, 0, [], [], fun _ => 0, fun _ => 0⟩ where
  p := rfl
  c := rfl
  F := rfl
  on := by funext x; simp [onR, r0]
  gn := by funext x; simp [gnR, r0]
  R := rfl
  le := ⟨Nat.le_refl _, Nat.le_refl _, Nat.le_refl _, Nat.le_refl _⟩
def GrR1 (w1 : World) (Q : Nat → Prop) (p : Loc) (rb : Nat) (L : List Pick) (N : Nat) (Bq : Nat) (runs i : Value) (wr : World) : Prop :=
  ∃ (k : Nat) (s : St) (r : Rs), k ≤ N ∧ i = .int .i64 k ∧ Pr w1 Q s rb r wr ∧ GOk p (5 * k) L k r s ∧ wr.ownsRow Bq 28 7 runs N ((runsAt L N).flatMap rnC)
def GrR2 (w1 : World) (Q : Nat → Prop) (p : Loc) (rb : Nat) (L : List Pick) (N : Nat) (Bq : Nat) (runs i : Value) (wr : World) : Prop :=
  ∃ (k : Nat) (s : St) (r : Rs), k ≤ 30 ∧ i = .int .i64 k ∧ Pr w1 Q s rb r wr ∧ GOk p (75 + k) L N r s ∧ wr.ownsRow Bq 28 7 runs N ((runsAt L N).flatMap rnC)
set_option maxRecDepth 100000 in
set_option maxHeartbeats 16000000 in
theorem grows_walk (L : List Pick) (x1 : Int) (T : List Nat) (A A2 : Option Addr) (n c n2 c2' : Nat) (w : World) (hR : Rd w w.heap.size 3 (.slice A n c) n (L.flatMap pickC)) (hA : Rd w w.heap.size 1 (.slice A2 n2 c2') n2 (T.flatMap ubC)) (h256 : ∀ x ∈ T, x < 256) (hT : Tabs w) :
    Calls Tryd.prog 7 #[.slice A n c, .int .u16 x1, .slice A2 n2 c2'] w fun e w' => e = .returned (.bool true) ∧ Below w.heap.size w w' := by
  have hal := len_of pickC 3 (fun _ => rfl) (by decide) hR.1
  subst hal
  have hal1 := len_of ubC 1 (fun _ => rfl) (by decide) hA.1
  subst hal1
  have hlm := hA.len
  have hlm2 := hR.len
  unfold maxLen at hlm hlm2
  have HR := Lib.hid (fun W (hW : Below w.heap.size w W) => hR.below' hW (Nat.le_refl _))
  have HA := Lib.hid (fun W (hW : Below w.heap.size w W) => hA.below' hW (Nat.le_refl _))
  have HT := Lib.hid (fun W (hW : Below w.heap.size w W) => hT.below hW)
  have H256 := Lib.hid h256
  clear hR hA hT h256
  go_enter Tryd.func7, Tryd.ntmps7
  go_wp2_with fail
  refine (lawake_any w (HT.out w (Below.refl _ w))).mono ?_
  rintro e w1 ⟨rfl, hb1⟩
  have HB1 := Lib.hid hb1
  clear hb1
  have hcc := hlm2.2.1
  by_cases h12 : 12 < L.length
  all_goals (
    first
      | (obtain ⟨L2, hL2, hr2⟩ : ∃ L2 : List Pick, L2.length ≤ 12 ∧ ∀ W, Below w.heap.size w W → Rd W w.heap.size 3 (.slice A 12 c) 12 (L2.flatMap pickC) := ⟨L.take 12, by rw [List.length_take]; omega, fun W hW => by
          have h := (HR.out W hW).taken (m := 12) (by omega)
          rwa [flat_take (f := pickC) (k := 3) (fun _ => rfl)] at h⟩
         have hi12 : (12 : Int) < (L.length : Int) := by omega
         have hi13 : (12 : Int) ≤ (c : Int) := by omega
         have HR2 := Lib.hid hr2
         have H12 := Lib.hid h12
         clear hr2 h12)
      | (obtain ⟨L2, hL2, hr2⟩ : ∃ L2 : List Pick, L2.length ≤ 12 ∧ ∀ W, Below w.heap.size w W → Rd W w.heap.size 3 (.slice A L.length c) L.length (L2.flatMap pickC) := ⟨L, by omega, HR.out⟩
         have hi12 : ¬ (12 : Int) < (L.length : Int) := by omega
         have hi13 : True := trivial
         have HR2 := Lib.hid hr2
         have H12 := Lib.hid h12
         clear hr2 h12)
    have hnew := Sht.new (w0 := w1) (P := fun _ => False) (Below.refl _ w1) (fun _ h => h.elim)
    have HNEW := Lib.hid hnew
    clear hnew
    go_wp2_with fail
    refine HNEW.out.mono ?_
    rintro e w3 ⟨p, rfl, hS, hb3⟩
    obtain ⟨W4, hW4⟩ : ∃ W, w3.alloc (.cells #[.slice none 0 0, .slice none 0 0, .slice none 0 0, .slice none 0 0, .slice none 0 0] 53) = W := ⟨_, rfl⟩
    have hb34 : Below w3.heap.size w3 W4 := by rw [← hW4]; exact (Below.refl _ w3).alloc (Nat.le_refl _) _
    have hx4 : W4.heap[w3.heap.size]? = some (.cells #[.slice none 0 0, .slice none 0 0, .slice none 0 0, .slice none 0 0, .slice none 0 0] 53 (0, 0)) := by rw [← hW4]; exact heap_alloc_new w3 _
    have hsz4 : W4.heap.size = w3.heap.size + 1 := by rw [← hW4]; simp
    obtain ⟨rb, hrb⟩ : ∃ z, w3.heap.size = z := ⟨_, rfl⟩
    have HW4 := Lib.hid hW4
    have HRB := Lib.hid hrb
    have HS := Lib.hid hS
    have HB3 := Lib.hid hb3
    have HB34 := Lib.hid hb34
    have HX4 := Lib.hid hx4
    have HSZ4 := Lib.hid hsz4
    clear hW4 hrb hS hb3 hb34 hx4 hsz4 HNEW
    go_wp2_with fail
    rw [HW4.out]
    simp only [HRB.out]
    have hb14 : Below w1.heap.size w1 W4 := HB3.out.trans (HB34.out.mono HB3.out.size)
    have hww4 : Below w.heap.size w W4 := HB1.out.trans (hb14.mono HB1.out.size)
    refine (grown_any L2 A _ c w.heap.size W4 (HR2.out W4 hww4) hww4.size).mono ?_
    rintro e w5 ⟨v, rfl, hown, hb5⟩
    obtain ⟨N, hN⟩ : ∃ N, min L2.length 15 = N := ⟨_, rfl⟩
    have hN12 : N ≤ 12 := by omega
    rw [hN] at hown
    obtain ⟨Av, cv, rfl, _, hcv⟩ := (Rd.of_own hown).form
    unfold maxLen at hcv
    obtain ⟨Q, hQ⟩ : ∃ Q : Nat → Prop, Q = fun g => W4.heap.size ≤ g ∧ g < w5.heap.size := ⟨_, rfl⟩
    have HQR := Lib.hid (show ∀ g, (Value.slice Av N cv).ownBlock = some g → Q g from fun g hg => by rw [hQ]; exact hown.lt g hg)
    have hPr : Pr w1 Q ⟨p, 0, [], [], fun _ => 0, fun _ => 0⟩ rb r0 w5 := by
      have hx := HX4.out
      rw [HRB.out] at hx
      refine ⟨v0, rs_start hx hb5, Sht.go HS.out (Below.touch (HB34.out.trans (hb5.mono HB34.out.size)) _) (fun k hk => .inr ?_), fun k hk => ?_, fun k hk => ?_⟩
      · have h1 := HSZ4.out
        have h2 := hb5.size
        rcases hk with hk | hk
        · have h3 := rfoot0 hk
          have h4 := HRB.out
          omega
        · rw [hQ] at hk
          omega
      · have h3 := rfoot0 hk
        have h4 := HRB.out
        have h1 := HSZ4.out
        have h5 := HB3.out.size
        rw [hQ]
        exact ⟨by omega, by omega⟩
      · rw [hQ] at hk
        exact hk.2
    have HST := Lib.hid (show GrR1 w1 Q p rb L2 N W4.heap.size (.slice Av N cv) (.int .i64 0) w5 from ⟨0, _, _, Nat.zero_le _, rfl, hPr, g_start p L2, hown⟩)
    have hw14s := hb14.size
    clear hN hown hb5 hQ hPr hb14 hww4 HS HB3 HB34 HX4 HSZ4 HR2
    go_wp2
    go_loopw [11] (fun i wr => GrR1 w1 Q p rb L2 N W4.heap.size (.slice Av N cv) i wr) (fun i _ => N - (intOf i).toNat)
    case atStart => exact HST.out
    case round =>
      clear HST
      obtain ⟨k, s, r, hk, rfl, hP, hG, hO⟩ := hrel
      obtain ⟨wo, rfl⟩ : ∃ wo : World, wo = wr := ⟨_, rfl⟩
      by_cases hlt : k < N
      · obtain ⟨gr, og, rfl, hBr, hcell⟩ := rd_at rnC 7 (fun _ => rfl) (by decide) (Rd.of_own hO) (show k < (runsAt L2 N).length by rw [runsAt_len]; exact hlt)
        rw [runsAt_get] at hcell
        have hq : Q gr := HQR.out gr rfl
        obtain ⟨rr, hr⟩ : ∃ rr, runAt L2 k = rr := ⟨_, rfl⟩
        have hel : rr.el.s = gS k (L2.getD k zeroP) := by rw [← hr]; rfl
        rw [hr] at hcell
        have HC := Lib.hid (fun W (hW : Tch w1 Q wo W) => (show W.cell? ⟨gr, og + k * 7, none⟩ = some (.int .i64 rr.af.s.T) ∧ W.cell? ⟨gr, og + k * 7 + 1, none⟩ = some (.int .i64 rr.af.s.R) ∧ W.cell? ⟨gr, og + k * 7 + 2, none⟩ = some (.int .i64 rr.af.I) ∧ W.cell? ⟨gr, og + k * 7 + 3, none⟩ = some (.int .i64 rr.el.s.T) ∧ W.cell? ⟨gr, og + k * 7 + 4, none⟩ = some (.int .i64 rr.el.s.R) ∧ W.cell? ⟨gr, og + k * 7 + 5, none⟩ = some (.int .i64 rr.el.I) ∧ W.cell? ⟨gr, og + k * 7 + 6, none⟩ = some (.string rr.tx) from by
          have hk2 : ∀ j u, (rnC rr)[j]? = some u → W.cell? ⟨gr, og + k * 7 + j, none⟩ = some u := fun j u hu => (hW.cell (p := ⟨gr, og + k * 7 + j, none⟩) hBr (fun hf => hf.2 hq)).trans (hcell j u hu)
          exact ⟨hk2 0 _ rfl, hk2 1 _ rfl, hk2 2 _ rfl, hk2 3 _ rfl, hk2 4 _ rfl, hk2 5 _ rfl, hk2 6 _ rfl⟩))
        have HSP := Lib.hid (fun W (hW : Pr w1 Q s rb r W) => (show Calls Tryd.prog 23 #[.pointer (some ⟨p.sh, 0, none⟩), .agg #[.int .i64 rr.af.s.T, .int .i64 rr.af.s.R, .int .i64 rr.af.I, .int .i64 rr.el.s.T, .int .i64 rr.el.s.R, .int .i64 rr.el.I, .string rr.tx]] W (fun e w' => ∃ s', (e = .returned (.int .i64 0) ∧ s'.p = p ∧ s'.c = 5 * k + 4 ∧ s'.F = flatAt L2 (k + 1) ∧ s'.on = onR r ∧ s'.gn = gnR r) ∧ Pr w1 Q s' rb r w' ∧ Tch w1 Q W w') from by
          have h := hW.actA (gact_add hG (by omega) (HT.out W (HB1.out.trans (hW.out.mono HB1.out.size))) (by omega))
          rw [hr] at h
          exact h))
        have HRP := Lib.hid (fun s' W (hW : Pr w1 Q s' rb r W) => (show Calls Tryd.prog 24 #[.pointer (some ⟨rb, 0, none⟩), .agg #[.int .i64 rr.af.s.T, .int .i64 rr.af.s.R, .int .i64 rr.af.I, .int .i64 rr.el.s.T, .int .i64 rr.el.s.R, .int .i64 rr.el.I, .string rr.tx]] W (fun e w' => e = .returned (.int .i64 0) ∧ Pr w1 Q s' rb { r with R := r.R ++ [runAt L2 k] } w' ∧ Tch w1 Q W w') from by
          have h := hW.actR (E := fun e => e = .returned (.int .i64 0)) (fun v hv => gref_add hG.R (by omega) v hv)
          rw [hr] at h ⊢
          exact h))
        have hp0 : Pr w1 Q s rb r wo.drew := hP.below (Below.refl _ wo).drew
        have t1 : Tch w1 Q wo wo.drew := (Touch.refl _ wo).drew
        have HG := Lib.hid hG
        have HO := Lib.hid hO
        have HEL := Lib.hid hel
        have i1 : (0 : Int) ≤ (k : Int) := by omega
        have i2 : (k : Int) < (N : Int) := by omega
        clear hcell hr hel hG hO hP hq
        go_wp2
        go_region_held3 (fun W => W.cell? ⟨gr, og + k * 7, none⟩ = some (.int .i64 rr.af.s.T) ∧ W.cell? ⟨gr, og + k * 7 + 1, none⟩ = some (.int .i64 rr.af.s.R) ∧ W.cell? ⟨gr, og + k * 7 + 2, none⟩ = some (.int .i64 rr.af.I) ∧ W.cell? ⟨gr, og + k * 7 + 3, none⟩ = some (.int .i64 rr.el.s.T) ∧ W.cell? ⟨gr, og + k * 7 + 4, none⟩ = some (.int .i64 rr.el.s.R) ∧ W.cell? ⟨gr, og + k * 7 + 5, none⟩ = some (.int .i64 rr.el.I) ∧ W.cell? ⟨gr, og + k * 7 + 6, none⟩ = some (.string rr.tx))
          (first | exact HC.out _ (by assumption) | go_keep)
          (first
            | (go_at_call 24; refine (HRP.out _ _ hp6).mono ?_; rintro e w7 ⟨rfl, hp7, t7⟩; have t8 : Tch w1 Q wo w7 := t6.trans t7 (fun _ _ h => h))
            | (go_at_call 23; refine (HSP.out _ hp0).mono ?_; rintro e w6 ⟨s6, ⟨rfl, hs6⟩, hp6, t5⟩; have t6 : Tch w1 Q wo w6 := t1.trans t5 (fun _ _ h => h)))
        have hG7 := gok_add HG.out hs6
        have hO7 := own_touch HO.out t8 (fun g hg h => h.2 (HQR.out g hg))
        obtain ⟨q0, q1, q2, q3, q4, q5, q6⟩ := HC.out w7 t8
        have HP7 := Lib.hid hp7
        have HG7 := Lib.hid hG7
        have HO7 := Lib.hid hO7
        have hq : Q gr := HQR.out gr rfl
        have q4' : w7.cell? ⟨gr, og + k * 7 + 3 + 1, none⟩ = some (.int .i64 rr.el.s.R) := q4
        clear hp7 hG7 hO7 t8 t7 t6 t5 t1 hs6 hp6 hp0 q0 q1 q2 q5 q6 q4
        rcases hbit : (bits BinOp.and IntKind.u16 (x1 / 2 ^ k) 1 == 1) with _ | _
        · have HREL := Lib.hid (show GrR1 w1 Q p rb L2 N W4.heap.size (.slice (some ⟨gr, og, none⟩) N cv) (.int .i64 ((k : Int) + 1)) w7 from ⟨k + 1, _, _, hlt, rfl, HP7.out.more (c' := 5 * (k + 1)) (by have := HG7.out.c; omega), HG7.out.more (by omega), HO7.out⟩)
          clear q3 q4' HP7 HG7 HO7
          go_wp2
          go_roundw
          case rel => exact HREL.out
          case measure => simp [intOf]; omega
        · have hset := HP7.out.actA (gact_set HG7.out (by omega) rr.el.s)
          unfold stV at hset
          have HSET := Lib.hid hset
          clear hset
          go_wp2_with fail
          refine HSET.out.mono ?_
          rintro e w8 ⟨s8, ⟨⟨_, rfl⟩, hG8⟩, hP8, t8⟩
          have hO8 := own_touch HO7.out t8 (fun g hg h => h.2 (HQR.out g hg))
          have p3 : w8.cell? ⟨gr, og + k * 7 + 3, none⟩ = some (.int .i64 rr.el.s.T) := (t8.cell (p := ⟨gr, og + k * 7 + 3, none⟩) (HO7.out.lt gr rfl).2 (fun hf => hf.2 hq)).trans q3
          have p4 : w8.cell? ⟨gr, og + k * 7 + 3 + 1, none⟩ = some (.int .i64 rr.el.s.R) := (t8.cell (p := ⟨gr, og + k * 7 + 3 + 1, none⟩) (HO7.out.lt gr rfl).2 (fun hf => hf.2 hq)).trans q4'
          have hrs := hP8.actR (E := fun e => ∃ u, e = .returned u) (fun v hv => rset_any hv (by have := HG7.out.le.1; dsimp only at this; dsimp only; omega) rr.el.s)
          unfold stV at hrs
          have HRS := Lib.hid hrs
          have HG8 := Lib.hid hG8
          have HO8 := Lib.hid hO8
          clear q3 q4' hrs hG8 hO8 hP8 t8 HSET HP7 HG7 HO7
          go_wp2_with fail
          refine HRS.out.mono ?_
          rintro e w9 ⟨⟨_, rfl⟩, hP9, t9⟩
          have hO9 := own_touch HO8.out t9 (fun g hg h => h.2 (HQR.out g hg))
          have HREL := Lib.hid (show GrR1 w1 Q p rb L2 N W4.heap.size (.slice (some ⟨gr, og, none⟩) N cv) (.int .i64 ((k : Int) + 1)) w9 from ⟨k + 1, _, _, hlt, rfl, hP9.more (c' := 5 * (k + 1)) (by have := HG8.out.c; omega), HG8.out.more (by omega), hO9⟩)
          clear p3 p4 hP9 t9 hO9 HRS HG8 HO8
          go_wp2
          go_roundw
          case rel => exact HREL.out
          case measure => simp [intOf]; omega
      · obtain rfl : k = N := by omega
        have HST2 := Lib.hid (show GrR2 w1 Q p rb L2 k W4.heap.size (.slice Av k cv) (.int .i64 0) wo from ⟨0, _, _, by omega, rfl, hP.more (c' := 75) (by have := hG.c; omega), hG.more (by omega), hO⟩)
        clear hP hG hO
        go_wp2
        go_loopw [12] (fun i wr => GrR2 w1 Q p rb L2 k W4.heap.size (.slice Av k cv) i wr) (fun i _ => 30 - (intOf i).toNat)
        case atStart => exact HST2.out
        case round =>
          clear HST2
          obtain ⟨m, s, r, hm, rfl, hP, hG, hO⟩ := hrel
          obtain ⟨wi, rfl⟩ : ∃ wi : World, wi = wr := ⟨_, rfl⟩
          have hb1i := hP.out
          have hwi := HB1.out.trans (hb1i.mono HB1.out.size)
          by_cases hgo : m < T.length ∧ m < 30 ∧ 0 < k
          · obtain ⟨hmt, hm30, hk0⟩ := hgo
            obtain ⟨bt, ot, rfl, hBt, hct⟩ := rd_at ubC 1 (fun _ => rfl) (by decide) (HA.out wi hwi) hmt
            have d0 : wi.cell? ⟨bt, ot + m, none⟩ = some (.int .u8 T[m]) := by simpa using hct 0 _ rfl
            have ha256 := H256.out T[m] (List.getElem_mem hmt)
            obtain ⟨a, ha⟩ : ∃ a, T[m] = a := ⟨_, rfl⟩
            rw [ha] at d0 ha256
            obtain ⟨xi, hxi⟩ : ∃ z, a % k = z := ⟨_, rfl⟩
            have hxl : xi < k := by rw [← hxi]; exact Nat.mod_lt _ hk0
            obtain ⟨d, hd⟩ : ∃ z, a / 64 = z := ⟨_, rfl⟩
            have hd3 : d ≤ 3 := by omega
            have m1 : Int.tmod (a : Int) (k : Int) = (xi : Int) := by rw [Int.tmod_eq_emod_of_nonneg (by omega), ← hxi]; rfl
            have m2 : Int.tdiv (a : Int) 64 = (d : Int) := by rw [Int.tdiv_eq_ediv_of_nonneg (by omega), ← hd]; rfl
            have w1' : IntKind.i64.wrap (a : Int) = a := IntWalk.i64_in _ (by omega)
            have w2' : IntKind.i64.wrap (d : Int) = d := IntWalk.i64_in _ (by omega)
            have w3' : IntKind.i64.wrap (xi : Int) = xi := IntWalk.i64_in _ (by omega)
            obtain ⟨gr, og, rfl, hBr, hcell⟩ := rd_at rnC 7 (fun _ => rfl) (by decide) (Rd.of_own hO) (show xi < (runsAt L2 k).length by rw [runsAt_len]; exact hxl)
            rw [runsAt_get] at hcell
            obtain ⟨rr, hr⟩ : ∃ rr, runAt L2 xi = rr := ⟨_, rfl⟩
            rw [hr] at hcell
            have c3 : wi.cell? ⟨gr, og + xi * 7 + 3, none⟩ = some (.int .i64 rr.el.s.T) := hcell 3 _ rfl
            have c4 : wi.cell? ⟨gr, og + xi * 7 + 3 + 1, none⟩ = some (.int .i64 rr.el.s.R) := hcell 4 _ rfl
            have c5 : wi.cell? ⟨gr, og + xi * 7 + 3 + 2, none⟩ = some (.int .i64 rr.el.I) := hcell 5 _ rfl
            have hk00 : ¬ k = 0 := by omega
            have i1 : (0 : Int) ≤ (m : Int) := by omega
            have i2 : (m : Int) < (T.length : Int) := by omega
            have i3 : (m : Int) < 30 := by omega
            have i4 : (0 : Int) < (k : Int) := by omega
            have i5 : (0 : Int) ≤ (xi : Int) := by omega
            have i6 : (xi : Int) < (k : Int) := by omega
            have HP := Lib.hid hP
            have HG := Lib.hid hG
            have HO := Lib.hid hO
            have hwis := hwi.size
            have hxn : (⟨rr.el.s, (d : Int), by unfold I64; omega⟩ : Id).I = (d : Int) := rfl
            obtain ⟨X, hXs, hXI⟩ : ∃ X : Id, X.s = rr.el.s ∧ X.I = (d : Int) := ⟨⟨rr.el.s, d, by unfold I64; omega⟩, rfl, rfl⟩
            clear hxn
            have d0' : (wi.alloc (.cells #[.int .i64 rr.el.s.T, .int .i64 rr.el.s.R, .int .i64 rr.el.I] 26)).cell? ⟨bt, ot + m, none⟩ = some (.int .u8 a) := (((Below.refl _ wi).alloc (Nat.le_refl _) _).cell (p := ⟨bt, ot + m, none⟩) (Nat.lt_of_lt_of_le hBt hwis)).trans d0
            have HXS := Lib.hid hXs
            have HXI := Lib.hid hXI
            clear hXs hXI hd hxi ha hcell hr
            obtain ⟨W1, hW1⟩ : ∃ W, wi.alloc (.cells #[.int .i64 rr.el.s.T, .int .i64 rr.el.s.R, .int .i64 (d : Int)] 26) = W := ⟨_, rfl⟩
            have hb1 : Below wi.heap.size wi W1 := by rw [← hW1]; exact (Below.refl _ wi).alloc (Nat.le_refl _) _
            have hx1 : W1.heap[wi.heap.size]? = some (.cells #[.int .i64 rr.el.s.T, .int .i64 rr.el.s.R, .int .i64 (d : Int)] 26 (0, 0)) := by rw [← hW1]; exact heap_alloc_new wi _
            have hsz1 : W1.heap.size = wi.heap.size + 1 := by rw [← hW1]; simp
            obtain ⟨bx, hbx⟩ : ∃ z, wi.heap.size = z := ⟨_, rfl⟩
            rw [hbx] at hx1
            have hP1 : Pr w1 (fun g => Q g ∨ g = bx) s rb r W1 := HP.out.go (Below.touch hb1 _) (fun g hg => by
              rcases hg with hg | hg
              · exact .inl hg
              · right; omega)
            have hO1 := own_touch HO.out (Below.touch hb1 (fun _ => False)) (fun _ _ h => h)
            have HC := Lib.hid (fun W (hW : Tch w1 (fun g => Q g ∨ g = bx) W1 W) => (show W.cell? ⟨bt, ot + m, none⟩ = some (.int .u8 a) ∧ W.cell? ⟨bx, 0, none⟩ = some (.int .i64 rr.el.s.T) ∧ W.cell? ⟨bx, 1, none⟩ = some (.int .i64 rr.el.s.R) ∧ W.cell? ⟨bx, 2, none⟩ = some (.int .i64 (d : Int)) from by
              have hx := block_touch hx1 hW (fun hs => hs.2 (.inr rfl))
              refine ⟨?_, cell_of_row _ _ 0 _ _ _ hx, cell_of_row _ _ 1 _ _ _ hx, cell_of_row _ _ 2 _ _ _ hx⟩
              have hs1 := HB1.out.size
              exact (hW.cell (p := ⟨bt, ot + m, none⟩) (show bt < W1.heap.size by omega) (fun hf => absurd hf.1 (show ¬ w1.heap.size ≤ bt by omega))).trans ((hb1.cell (p := ⟨bt, ot + m, none⟩) (show bt < wi.heap.size by omega)).trans d0)))
            obtain ⟨q, hq⟩ : ∃ q, (bits BinOp.and IntKind.u8 (a : Int) 1 == 0) = q := ⟨_, rfl⟩
            obtain ⟨z, hz⟩ : ∃ z, takeE r X = z := ⟨_, rfl⟩
            have hzz : (z != z) = false := by simp
            have HSP := Lib.hid (fun W (hW : Pr w1 (fun g => Q g ∨ g = bx) s rb r W) => (show Calls Tryd.prog 27 #[.pointer (some ⟨p.sh, 0, none⟩), .agg #[.int .i64 rr.el.s.T, .int .i64 rr.el.s.R, .int .i64 (d : Int)], .bool q] W (fun e w' => ∃ s', (e = .returned (.int .i64 z) ∧ GOk p (75 + m + 1) L2 k (takeR r X q) s') ∧ Pr w1 (fun g => Q g ∨ g = bx) s' rb r w' ∧ Tch w1 (fun g => Q g ∨ g = bx) W w') from by
              have h := hW.actA (gact_take HG.out (by omega) (by omega) X q)
              unfold idV at h
              rw [HXS.out, HXI.out, hz] at h
              exact h))
            have HRP := Lib.hid (fun s' W (hW : Pr w1 (fun g => Q g ∨ g = bx) s' rb r W) => (show Calls Tryd.prog 28 #[.pointer (some ⟨rb, 0, none⟩), .agg #[.int .i64 rr.el.s.T, .int .i64 rr.el.s.R, .int .i64 (d : Int)], .bool q] W (fun e w' => e = .returned (.int .i64 z) ∧ Pr w1 (fun g => Q g ∨ g = bx) s' rb (takeR r X q) w' ∧ Tch w1 (fun g => Q g ∨ g = bx) W w') from by
              have h := hW.actR (E := fun e => e = .returned (.int .i64 (takeE r X))) (fun v hv => rtake_any hv (rsOk_of (by omega) HG.out.R) ⟨by have := HG.out.le.2.2.1; omega, by have := HG.out.le.2.2.2; omega⟩ X q)
              unfold idV at h
              rw [HXS.out, HXI.out, hz] at h
              exact h))
            have hp0 : Pr w1 (fun g => Q g ∨ g = bx) s rb r W1.drew := hP1.below (Below.refl _ W1).drew
            have t1 : Tch w1 (fun g => Q g ∨ g = bx) W1 W1.drew := (Touch.refl _ W1).drew
            have HW1 := Lib.hid hW1
            have HBX := Lib.hid hbx
            have HO1 := Lib.hid hO1
            clear hW1 hbx hb1 hx1 hsz1 hP1 hO1 HP HO hz
            go_upto_region 23 with (fail)
            rw [HW1.out]
            simp only [HBX.out]
            clear d0 d0' c3 c4 c5
            go_region_held3 (fun W => W.cell? ⟨bt, ot + m, none⟩ = some (.int .u8 a) ∧ W.cell? ⟨bx, 0, none⟩ = some (.int .i64 rr.el.s.T) ∧ W.cell? ⟨bx, 1, none⟩ = some (.int .i64 rr.el.s.R) ∧ W.cell? ⟨bx, 2, none⟩ = some (.int .i64 (d : Int)))
              (first | exact HC.out _ (by assumption) | go_keep)
              (first
                | (go_at_call 28; refine (HRP.out _ _ hp6).mono ?_; rintro e w7 ⟨rfl, hp7, t7⟩; have t8 : Tch w1 (fun g => Q g ∨ g = bx) W1 w7 := t6.trans t7 (fun _ _ h => h))
                | (go_at_call 27; refine (HSP.out _ hp0).mono ?_; rintro e w6 ⟨s6, ⟨rfl, hs6⟩, hp6, t5⟩; have t6 : Tch w1 (fun g => Q g ∨ g = bx) W1 w6 := t1.trans t5 (fun _ _ h => h)))
            have HREL := Lib.hid (show GrR2 w1 Q p rb L2 k W4.heap.size (.slice (some ⟨gr, og, none⟩) k cv) (.int .i64 ((m : Int) + 1)) w7 from ⟨m + 1, _, _, by omega, rfl, hp7.go (Touch.refl _ _) (fun g hg => .inl (.inl hg)), hs6, own_touch HO1.out t8 (fun g hg h => h.2 (.inl (HQR.out g hg)))⟩)
            clear hp7 hs6 hp6 t8 t7 t6 t5 t1 hp0 HC HSP HRP HO1
            go_wp2
            go_roundw
            case rel => exact HREL.out
            case measure => simp [intOf]; omega
          · have hways : (¬ (m : Int) < (T.length : Int)) ∨ ((m : Int) < (T.length : Int) ∧ ¬ (m : Int) < 30) ∨ ((m : Int) < (T.length : Int) ∧ (m : Int) < 30 ∧ k = 0) := by omega
            obtain ⟨v, hI, hS, _, _⟩ := hP
            obtain ⟨p', c', F', O, on', gn'⟩ := s
            obtain ⟨g1, g2, g3, g4, g5, g6, g7⟩ := hG
            dsimp only at g1 g2 g3 g4 g5
            subst g1; subst g2; subst g3; subst g4; subst g5
            have hS : Sht w1 _ p' (75 + m) (flatAt L2 k) O (onR r) (gnR r) wi := hS
            obtain ⟨t1, t2⟩ := hS.txt (flatAt_pc L2 k)
            have hok := rsOk_of (by omega) g6
            have hle : RsLe r := ⟨by omega, by omega, by omega, by omega⟩
            have hcn := counts_grown L2 (k := k) (by omega) (List.Perm.refl _)
            have hor := hS.order
            rw [← hcn] at hor
            have hor2 : OrderOf Id.Lt El.id El.af zeroI (Counts (flat r.R)) O := by rw [g6]; exact hor
            have HTA := Lib.hid (fun W (hW : Below wi.heap.size wi W) => (hS.below hW).text (by omega) (by omega))
            have HTB := Lib.hid (fun W (hW : Below wi.heap.size wi W) => rstext_any (hI.below hW) hok hle hor2 (by omega))
            have HLN := Lib.hid (fun W (hW : Below wi.heap.size wi W) => (hS.below hW).len)
            rw [cnt_row] at HLN
            have HSE := Lib.hid (fun W (hW : Below wi.heap.size wi W) => (rseen_any (hI.below hW) hok hle).mono (R' := fun e w' => ∃ A' c', e = .returned (.slice A' (seenO O (onR r) (gnR r)).length c') ∧ Below W.heap.size W w') (by
              rintro e w' ⟨v, O', rfl, h1, h2, _, h3⟩
              obtain rfl := order_unique idSTO h1 hor2
              obtain ⟨A', c', rfl, _, _⟩ := (Rd.of_own h2).form
              exact ⟨A', c', rfl, h3⟩))
            obtain ⟨tx, htx⟩ : ∃ tx, ofL (txt (seenO O (onR r) (gnR r))) = tx := ⟨_, rfl⟩
            obtain ⟨nn, hnn⟩ : ∃ nn, (seenO O (onR r) (gnR r)).length = nn := ⟨_, rfl⟩
            rw [htx] at HTA HTB
            rw [hnn] at HLN HSE
            have hbe : (tx.toList == tx.toList) = true := beq_self_eq_true _
            have k0 : Below wi.heap.size wi wi := Below.refl _ _
            have HWI := Lib.hid hwi
            clear hI hS hO t1 t2 hok hle hcn hor hor2 htx hnn g6 g7 hwi hb1i hgo
            rcases hways with i1 | ⟨i1, i2⟩ | ⟨i1, i2, rfl⟩
            all_goals (
              go_wp2_with fail
              refine (HTA.out wi k0).mono ?_
              rintro e w6 ⟨rfl, k1⟩
              go_wp2_with fail
              refine (HTB.out w6 k1).mono ?_
              rintro e w7 ⟨rfl, hb7⟩
              have k2 := k1.trans (hb7.mono k1.size)
              go_wp2_with fail
              refine (HLN.out w7 k2).mono ?_
              rintro e w8 ⟨rfl, rfl⟩
              go_wp2_with fail
              refine (HSE.out _ k2).mono ?_
              rintro e w9 ⟨A9, c9, rfl, hb9⟩
              have k3 := k2.trans (hb9.mono k2.size)
              have HK3 := Lib.hid k3
              clear hb7 hb9 k1 k2 k3 k0
              go_wp2
              go_ret
              exact ⟨rfl, HWI.out.trans (HK3.out.mono HWI.out.size)⟩))
end Go.Proofs.YtphapjbfaomblaaDoor
