/- What is found has its place: the law's walk. -/
import Derived.Test.YtphapjbfaomblaaSJ
import Derived.Deep.RegionHeld3
namespace Go.Proofs.Ytphapjbfaomblaa
open Go Go.RowKit Go.Maps
/-- the law's row after k puts -/
def Fr (R : Row Id) (k : Nat) : Prop := R.length = k ∧ (namesR R).Nodup ∧ ∀ x ∈ namesR R, x.I < (k : Int)
theorem Fr.start : Fr ([] : Row Id) 0 := ⟨rfl, List.nodup_nil, fun x h => by cases h⟩
theorem i64k {k : Nat} (h : k ≤ 300) : I64 (k : Int) := by unfold I64; omega
theorem Fr.put {R : Row Id} {k : Nat} (h : Fr R k) (hk : k < 300) (p : Nat) (hp : p ≤ k) (q : Bool) : errP R (p : Int) (idN k (i64k (Nat.le_of_lt hk))) = 0 ∧ Fr (putV R (p : Int) (idN k (i64k (Nat.le_of_lt hk))) q) (k + 1) := by
  obtain ⟨h1, h2, h3⟩ := h
  have hx : idN (k : Int) (i64k (Nat.le_of_lt hk)) ∉ namesR R := fun hm => by
    have := h3 _ hm
    unfold idN at this
    dsimp only at this
    omega
  have he : errP R (p : Int) (idN k (i64k (Nat.le_of_lt hk))) = 0 := by unfold errP; rw [if_neg (by omega), if_neg hx]
  refine ⟨he, ?_⟩
  unfold putV
  rw [if_pos he, Int.toNat_natCast]
  refine ⟨by rw [putR_len _ _ _ _ (by omega), h1], nodup_put _ _ h2 hx, fun y hy => ?_⟩
  rcases (mem_put _ _ _ _ _).1 hy with rfl | hy
  · unfold idN; dsimp only; omega
  · have := h3 y hy; omega
def uC (x : Nat) : List Value := [.int .u16 (x : Int)]
def FdRel (n : Nat) (w1 : World) (sb : Nat) (i : Value) (wr : World) : Prop := ∃ (k : Nat) (R : Row Id), k ≤ n ∧ k ≤ 300 ∧ i = .int .i64 k ∧ Aw w1 sb R wr ∧ Fr R k
theorem put_law {w0 w : World} {sb : Nat} {R : Row Id} {k : Nat} (h : Aw w0 sb R w) (hF : Fr R k) (hk : k < 300) (p : Nat) (hp : p ≤ k) (q : Bool) :
    Calls Try.prog 9 #[.pointer (some ⟨sb, 0, none⟩), .int .i64 (p : Int), .agg #[.int .i64 1, .int .i64 1, .int .i64 (k : Int)], .bool q] w fun e w' => e = .returned (.int .i64 0) ∧ ∃ R', Aw w0 sb R' w' ∧ Fr R' (k + 1) :=
  (h.put (by have := hF.1; omega) (p : Int) (idN k (i64k (Nat.le_of_lt hk))) q).mono (fun e w' hh => by
    have := hF.put hk p hp q
    exact ⟨by rw [hh.1, this.1], _, hh.2.1, this.2⟩)
theorem Aw.names {w0 w : World} {sb : Nat} {R : Row Id} (h : Aw w0 sb R w) {k : Nat} (hF : Fr R k) (hk : k ≤ 300) : Calls Try.prog 11 #[.pointer (some ⟨sb, 0, none⟩), .bool false] w fun e w' => ∃ A c, e = .returned (.slice A k c) ∧ Rd w' w'.heap.size 3 (.slice A k c) k ((namesR R).flatMap idC) ∧ Aw w0 sb R w' ∧ Below w.heap.size w w' := by
  refine (h.list (by have := hF.1; omega) false).mono ?_
  rintro e w' ⟨v, rfl, ho, h1, h2⟩
  rw [listR_false, names_len, hF.1] at ho
  obtain ⟨A, c, rfl, _, _⟩ := (Rd.of_own ho).form
  exact ⟨A, c, rfl, Rd.of_own ho, h1, h2⟩
theorem Aw.seen {w0 w : World} {sb : Nat} {R : Row Id} (h : Aw w0 sb R w) {k t : Nat} (hF : Fr R k) (hk : k ≤ 300) (ht : cntR R = t) : Calls Try.prog 11 #[.pointer (some ⟨sb, 0, none⟩), .bool true] w fun e w' => ∃ A c, e = .returned (.slice A t c) ∧ Rd w' w'.heap.size 3 (.slice A t c) t ((listR R true).flatMap idC) ∧ Aw w0 sb R w' ∧ Below w.heap.size w w' := by
  refine (h.list (by have := hF.1; omega) true).mono ?_
  rintro e w' ⟨v, rfl, ho, h1, h2⟩
  rw [listR_true_len, ht] at ho
  obtain ⟨A, c, rfl, _, _⟩ := (Rd.of_own ho).form
  exact ⟨A, c, rfl, Rd.of_own ho, h1, h2⟩
theorem Aw.all' {w0 w : World} {sb : Nat} {R : Row Id} (h : Aw w0 sb R w) {k : Nat} (hF : Fr R k) : Calls Try.prog 8 #[.pointer (some ⟨sb, 0, none⟩)] w fun e w' => e = .returned (.int .i64 k) ∧ w' = w := by
  have := h.all
  rw [hF.1] at this
  exact this
theorem Aw.count' {w0 w : World} {sb : Nat} {R : Row Id} (h : Aw w0 sb R w) {t : Nat} (ht : cntR R = t) : Calls Try.prog 12 #[.pointer (some ⟨sb, 0, none⟩)] w fun e w' => e = .returned (.int .i64 t) ∧ w' = w := by
  have := h.count
  rw [ht] at this
  exact this
theorem Aw.place' {w0 w : World} {sb : Nat} {R : Row Id} (h : Aw w0 sb R w) {k : Nat} (hF : Fr R k) (hk : k ≤ 300) {j q : Nat} (hj : j < R.length) {y : Id} (hy : (R[j]).1 = y) (hq : cntR (R.take j) = q) : Calls Try.prog 13 #[.pointer (some ⟨sb, 0, none⟩), .agg #[.int .i64 y.s.T, .int .i64 y.s.R, .int .i64 y.I]] w fun e w' => e = .returned (.tuple #[.int .i64 j, .int .i64 q, .int .i64 0]) ∧ Below w.heap.size w w' := by
  refine (h.place (by have := hF.1; omega) y).mono ?_
  rintro e w' ⟨rfl, _, h2⟩
  have h3 : ixR R y = j := by rw [← hy]; exact ixR_nodup hF.2.1 hj
  have h4 : y ∈ namesR R := ixR_lt.1 (by rw [h3]; exact hj)
  have h5 : placeV R y = ((j : Int), (q : Int), 0) := by unfold placeV; rw [if_pos h4, h3, hq]
  rw [h5]
  exact ⟨rfl, h2⟩
theorem Aw.find' {w0 w : World} {sb : Nat} {R : Row Id} (h : Aw w0 sb R w) {k : Nat} (hF : Fr R k) (hk : k ≤ 300) {j q : Nat} (hj : j < R.length) {y : Id} (hy : (R[j]).1 = y) (hs : (R[j]).2 = true) (hq : cntR (R.take j) = q) : Calls Try.prog 14 #[.pointer (some ⟨sb, 0, none⟩), .int .i64 (q : Nat)] w fun e w' => e = .returned (.tuple #[.agg #[.int .i64 y.s.T, .int .i64 y.s.R, .int .i64 y.I], .int .i64 0]) ∧ Below w.heap.size w w' := by
  refine (h.find (by have := hF.1; omega) (q : Nat)).mono ?_
  rintro e w' ⟨rfl, _, h2⟩
  have h5 : findV R (q : Int) = (y, 0) := findV_some (by rw [if_neg (by omega), Int.toNat_natCast, ← hq, findR_at hj hs, hy])
  rw [h5]
  exact ⟨rfl, h2⟩
theorem Aw.findEnd {w0 w : World} {sb : Nat} {R : Row Id} (h : Aw w0 sb R w) {k : Nat} (hF : Fr R k) (hk : k ≤ 300) {t : Nat} (ht : cntR R = t) : Calls Try.prog 14 #[.pointer (some ⟨sb, 0, none⟩), .int .i64 (t : Nat)] w fun e w' => e = .returned (.tuple #[.agg #[.int .i64 0, .int .i64 0, .int .i64 0], .int .i64 100]) ∧ Below w.heap.size w w' := by
  refine (h.find (by have := hF.1; omega) (t : Nat)).mono ?_
  rintro e w' ⟨rfl, _, h2⟩
  have h5 : findV R (t : Int) = (zeroI, 100) := findV_none (by rw [if_neg (by omega), Int.toNat_natCast]; exact findR_none _ _ (by omega))
  rw [h5]
  exact ⟨rfl, h2⟩
def F2Rel (R : Row Id) (w4 : World) (se i : Value) (wr : World) : Prop := ∃ j : Nat, j ≤ R.length ∧ i = .int .i64 j ∧ se = .int .i64 (cntR (R.take j) : Nat) ∧ Below w4.heap.size w4 wr
set_option maxRecDepth 100000 in
set_option maxHeartbeats 4000000 in
theorem finds_walk (L : List Nat) (hu : ∀ x ∈ L, x < 65536) (A : Option Addr) (n c : Nat) (w : World) (hR : Rd w w.heap.size 1 (.slice A n c) n (L.flatMap uC)) (hn : L.length = n) :
    Calls Try.prog 3 #[.slice A n c] w fun e w' => e = .returned (.bool true) ∧ Below w.heap.size w w' := by
  have HR := Lib.hid (fun W (hW : Below w.heap.size w W) => hR.below' hW (Nat.le_refl _))
  have HU := Lib.hid hu
  clear hR hu
  go_enter Try.func3, Try.ntmps3
  go_wp2_with fail
  refine (awake_any w).mono ?_
  rintro e w1 ⟨rfl, hb1⟩
  have HB1 := Lib.hid hb1
  clear hb1
  go_wp2_with fail
  refine (Aw.new w1).mono ?_
  rintro e w2 ⟨sb, rfl, h2⟩
  go_wp2_with fail
  go_loopw [5] (fun i wr => FdRel n w1 sb i wr) (fun i _ => n - (intOf i).toNat)
  case atStart => exact ⟨0, [], Nat.zero_le _, Nat.zero_le _, rfl, h2, Fr.start⟩
  case round =>
    obtain ⟨k, R, hk, hk3, rfl, hA, hF⟩ := hrel
    obtain ⟨wo, rfl⟩ : ∃ wo : World, wo = wr := ⟨_, rfl⟩
    have HA := Lib.hid hA
    have HF := Lib.hid hF
    clear hA hF h2
    by_cases hlt : k < n ∧ k < 300
    · obtain ⟨hl1, hl2⟩ := hlt
      obtain ⟨b, o, rfl, hBb, hcell⟩ := rd_at uC 1 (fun _ => rfl) (by decide) (HR.out w1 HB1.out) (show k < L.length by omega)
      have hx := HU.out _ (List.getElem_mem (show k < L.length by omega))
      have hc0 := hcell 0 _ rfl
      obtain ⟨x, hxe⟩ : ∃ x, L[k] = x := ⟨_, rfl⟩
      simp only [Nat.mul_one, Nat.add_zero, hxe] at hc0
      rw [hxe] at hx
      have HC := Lib.hid (fun W (hW : Below w1.heap.size w1 W) => (show W.cell? ⟨b, o + k, none⟩ = some (.int .u16 (x : Int)) from (hW.cell (p := ⟨b, o + k, none⟩) (Nat.lt_of_lt_of_le hBb HB1.out.size)).trans hc0))
      have i1 : (0 : Int) ≤ (k : Int) := by omega
      have i2 : (k : Int) < (n : Int) := by omega
      have i3 : (k : Int) < 300 := by omega
      obtain ⟨p, hp⟩ : ∃ p, x % (k + 1) = p := ⟨_, rfl⟩
      have hpk : p ≤ k := by have := Nat.mod_lt x (show k + 1 > 0 by omega); omega
      have w1' : IntKind.i64.wrap (x : Int) = x := IntWalk.i64_in _ (by omega)
      have w2' : IntKind.i64.wrap ((k : Int) + 1) = (k : Int) + 1 := IntWalk.i64_in _ (by omega)
      have hnz : ¬ ((k : Int) + 1 = 0) := by omega
      have m1 : Int.tmod (x : Int) ((k : Int) + 1) = (p : Int) := by
        rw [Int.tmod_eq_emod_of_nonneg (by omega), ← hp]; rfl
      have ha := HA.out.drew.all
      rw [HF.out.1] at ha
      have HAL := Lib.hid ha
      clear hcell hc0 hp hxe ha
      go_wp2_with fail
      go_region_held3 (fun W' => W'.cell? ⟨b, o + k, none⟩ = some (.int .u16 (x : Int)))
        (first | exact HC.out _ HA.out.drew.out | exact HC.out _ h11.out | exact HC.out _ hA'.out)
        (first
          | (go_at_call 8; refine HAL.out.mono ?_; rintro e wz ⟨rfl, rfl⟩)
          | (go_at_call 10; refine (id_at _ _).mono ?_; rintro e wy ⟨rfl, gy⟩; have h11 := HA.out.drew.below gy.below)
          | (go_at_call 9; refine (put_law h11 HF.out hl2 p hpk _).mono ?_; rintro e wv ⟨rfl, R', hA', hF'⟩))
      all_goals go_wp2_with fail
      all_goals exact ⟨⟨k + 1, R', by omega, by omega, rfl, hA', hF'⟩, by show n - ((k : Int) + 1).toNat < n - (k : Int).toNat; omega⟩
    · have hout : (¬ (k : Int) < (n : Int)) ∨ ((k : Int) < (n : Int) ∧ ¬ (k : Int) < 300) := by omega
      obtain ⟨t, ht⟩ : ∃ t, cntR R = t := ⟨_, rfl⟩
      have HT := Lib.hid ht
      have ht3 : t ≤ 300 := by have := cntR_le R; have := HF.out.1; omega
      clear ht hlt
      rcases hout with i2 | ⟨i2, i3⟩
      all_goals
        go_wp2_with (first
          | (go_at_call 11; refine (h3.seen HF.out hk3 HT.out).mono ?_; rintro e w4 ⟨At, ct, rfl, hT4, h4, hb4⟩)
          | (go_at_call 11; refine (HA.out.names HF.out hk3).mono ?_; rintro e w3 ⟨An, cn, rfl, hN3, h3, hb3⟩)
          | (go_at_call 8; refine (h4.all' HF.out).mono ?_; rintro e w4 ⟨rfl, rfl⟩)
          | (go_at_call 12; refine (h4.count' HT.out).mono ?_; rintro e w4 ⟨rfl, rfl⟩))
        have H4 := Lib.hid h4
        have HN := Lib.hid (fun W (hW : Below w4.heap.size w4 W) => (hN3.below' hb4 (Nat.le_refl _)).below' hW hb4.size)
        have HTT := Lib.hid (fun W (hW : Below w4.heap.size w4 W) => hT4.below' hW (Nat.le_refl _))
        have h34 := hb4.size
        clear hN3 hT4 h3 h4 hb3 hb4
        go_loopw [8, 9] (fun se i wr => F2Rel R w4 se i wr) (fun _ i _ => k - (intOf i).toNat)
        case atStart => exact ⟨0, Nat.zero_le _, rfl, rfl, Below.refl _ _⟩
        case round =>
          obtain ⟨j, hj, rfl, rfl, hb⟩ := hrel
          obtain ⟨wp, rfl⟩ : ∃ wp : World, wp = wr := ⟨_, rfl⟩
          have HB := Lib.hid hb
          clear hb
          have hRk := HF.out.1
          by_cases hlt : j < k
          · have hjR : j < R.length := by omega
            obtain ⟨q, hq⟩ : ∃ q, cntR (R.take j) = q := ⟨_, rfl⟩
            have hqt : q ≤ t := by have := cntR_take_le R j; have := HT.out; omega
            have hnext := cntR_take_succ hjR
            rw [hq] at hnext
            rw [hq]
            obtain ⟨y, hy⟩ : ∃ y, (R[j]).1 = y := ⟨_, rfl⟩
            have hyN : (namesR R)[j]'(by rw [names_len]; exact hjR) = y := by rw [← hy]; simp [namesR]
            obtain ⟨b, o, rfl, hBb, hcell⟩ := rd_at idC 3 (fun _ => rfl) (by decide) (HN.out w4 (Below.refl _ _)) (show j < (namesR R).length by rw [names_len]; exact hjR)
            rw [hyN] at hcell
            have hbl4 : b < w4.heap.size := Nat.lt_of_lt_of_le hBb h34
            have HC := Lib.hid (fun W (hW : Below w4.heap.size w4 W) => (show W.cell? ⟨b, o + j * 3, none⟩ = some (.int .i64 y.s.T) ∧ W.cell? ⟨b, o + j * 3 + 1, none⟩ = some (.int .i64 y.s.R) ∧ W.cell? ⟨b, o + j * 3 + 2, none⟩ = some (.int .i64 y.I) from
              ⟨(hW.cell (p := ⟨b, o + j * 3, none⟩) hbl4).trans (hcell 0 _ rfl), (hW.cell (p := ⟨b, o + j * 3 + 1, none⟩) hbl4).trans (hcell 1 _ rfl), (hW.cell (p := ⟨b, o + j * 3 + 2, none⟩) hbl4).trans (hcell 2 _ rfl)⟩))
            have HP := Lib.hid ((H4.out.below HB.out).place' HF.out hk3 hjR hy hq)
            have HQ := Lib.hid hq
            have HNX := Lib.hid hnext
            have HY := Lib.hid hy
            obtain ⟨c0, c1, c2⟩ := HC.out wp HB.out
            have i4 : (0 : Int) ≤ (j : Int) := by omega
            have i5 : (j : Int) < (k : Int) := by omega
            have hsplit : (¬ (q : Int) < (t : Int) ∧ (R[j]).2 = false) ∨ (q < t) := by
              by_cases h : q < t
              · exact .inr h
              · refine .inl ⟨by omega, ?_⟩
                have h1 := cntR_take_le R (j + 1)
                have h2 := HT.out
                cases hs : (R[j]).2 with
                | false => rfl
                | true => rw [hs] at hnext; simp at hnext; omega
            clear hcell hnext hq hy hyN
            rcases hsplit with ⟨i6, hs⟩ | hqt'
            · obtain rfl : q = t := by omega
              clear i6
              go_wp2_with (go_at_call 13; refine HP.out.mono ?_; rintro e wv ⟨rfl, hbv⟩)
              have hbp := HB.out.trans (hbv.mono HB.out.size)
              obtain ⟨d0, d1, d2⟩ := HC.out wv hbp
              go_region
              go_wp2
              go_roundw
              case rel => exact ⟨j + 1, by omega, rfl, by rw [HNX.out, hs]; rfl, hbp.drew⟩
              case measure => simp [intOf]; omega
            · have hqT : q < (listR R true).length := by rw [listR_true_len, HT.out]; exact hqt'
              obtain ⟨z, hz⟩ : ∃ z, (listR R true)[q] = z := ⟨_, rfl⟩
              have hzy2 : z = y ↔ (R[j]).2 = true := by
                rw [← hz, ← HY.out]
                have := HQ.out
                subst this
                exact listR_next HF.out.2.1 hjR hqT
              obtain ⟨b2, o2, rfl, hBb2, hcell2⟩ := rd_at idC 3 (fun _ => rfl) (by decide) (HTT.out w4 (Below.refl _ _)) hqT
              rw [hz] at hcell2
              have HC2 := Lib.hid (fun W (hW : Below w4.heap.size w4 W) => (show W.cell? ⟨b2, o2 + q * 3, none⟩ = some (.int .i64 z.s.T) ∧ W.cell? ⟨b2, o2 + q * 3 + 1, none⟩ = some (.int .i64 z.s.R) ∧ W.cell? ⟨b2, o2 + q * 3 + 2, none⟩ = some (.int .i64 z.I) from
                ⟨(hW.cell (p := ⟨b2, o2 + q * 3, none⟩) hBb2).trans (hcell2 0 _ rfl), (hW.cell (p := ⟨b2, o2 + q * 3 + 1, none⟩) hBb2).trans (hcell2 1 _ rfl), (hW.cell (p := ⟨b2, o2 + q * 3 + 2, none⟩) hBb2).trans (hcell2 2 _ rfl)⟩))
              have HZY := Lib.hid hzy2
              have i6 : (0 : Int) ≤ (q : Int) := by omega
              have i7 : (q : Int) < (t : Int) := by omega
              clear hcell2 hz hzy2
              go_wp2_with (go_at_call 13; refine HP.out.mono ?_; rintro e wv ⟨rfl, hbv⟩)
              have hbp := HB.out.trans (hbv.mono HB.out.size)
              have HBP := Lib.hid hbp
              obtain ⟨d0, d1, d2⟩ := HC.out wv hbp
              obtain ⟨f0, f1, f2⟩ := HC2.out wv hbp
              have hqq := eql26
              have hgd := gd26
              have hE := eq3_iff z y
              clear c0 c1 c2 hbp
              by_cases hzy : z = y
              · rw [decide_eq_true hzy] at hE
                have hs := HZY.out.1 hzy
                have HS := Lib.hid hs
                clear hzy hs
                go_quiet (fail)
                go_wp2_with (go_at_call 14; refine (((H4.out.below HBP.out).below (((Grows.refl wv).drewN _).below)).find' HF.out hk3 hjR HY.out HS.out HQ.out).mono ?_; rintro e wf ⟨rfl, hbf⟩)
                have hb5 : Below w4.heap.size w4 wf := (HBP.out.trans ((((Grows.refl wv).drewN _).below).mono HBP.out.size)).trans (hbf.mono (HBP.out.trans ((((Grows.refl wv).drewN _).below).mono HBP.out.size)).size)
                obtain ⟨W5, hW5⟩ : ∃ W, wf.alloc (.cells #[.int .i64 y.s.T, .int .i64 y.s.R, .int .i64 y.I] 33) = W := ⟨_, rfl⟩
                have hb6 : Below w4.heap.size w4 W5 := by rw [← hW5]; exact hb5.alloc hb5.size _
                have hx5 : W5.heap[wf.heap.size]? = some (.cells #[.int .i64 y.s.T, .int .i64 y.s.R, .int .i64 y.I] 33 (0, 0)) := by rw [← hW5]; exact heap_alloc_new wf _
                rw [hW5]
                have x0 : W5.cell? ⟨wf.heap.size, 0, none⟩ = some (.int .i64 y.s.T) := cell_of_row _ _ 0 _ _ _ hx5
                have x1 : W5.cell? ⟨wf.heap.size, 1, none⟩ = some (.int .i64 y.s.R) := cell_of_row _ _ 1 _ _ _ hx5
                have x2 : W5.cell? ⟨wf.heap.size, 2, none⟩ = some (.int .i64 y.I) := cell_of_row _ _ 2 _ _ _ hx5
                obtain ⟨y0, y1, y2⟩ := HC.out W5 hb6
                have hE2 : eq3 y.s.T y.s.R y.I y.s.T y.s.R y.I = true := by rw [eq3_iff]; simp
                have hqn := neq26
                have wq : IntKind.i64.wrap ((q : Int) + 1) = (q : Int) + 1 := IntWalk.i64_in _ (by omega)
                have HB6 := Lib.hid hb6
                clear hW5 hx5 hb5 hb6 hbf hqq hE f0 f1 f2 d0 d1 d2
                go_quiet (fail)
                go_wp2
                go_roundw
                case rel => exact ⟨j + 1, by omega, rfl, by rw [HNX.out, HS.out]; rfl, HB6.out.trans ((((Grows.refl W5).drewN _).below).mono HB6.out.size)⟩
                case measure => simp [intOf]; omega
              · rw [decide_eq_false hzy] at hE
                have hs : (R[j]).2 = false := by
                  cases h : (R[j]).2 with
                  | false => rfl
                  | true => exact absurd (HZY.out.2 h) hzy
                clear hzy
                go_quiet (fail)
                go_wp2
                go_roundw
                case rel => exact ⟨j + 1, by omega, rfl, by rw [HNX.out, hs]; rfl, HBP.out.trans ((((Grows.refl wv).drewN _).below).mono HBP.out.size)⟩
                case measure => simp [intOf]; omega
          · obtain rfl : j = k := by omega
            have hse : cntR (R.take j) = t := by rw [List.take_of_length_le (by omega)]; exact HT.out
            rw [hse]
            clear hlt
            go_wp2_with (go_at_call 14; refine ((H4.out.below HB.out).findEnd HF.out hk3 HT.out).mono ?_; rintro e wf ⟨rfl, hbf⟩)
            go_ret
            exact ⟨rfl, HB1.out.trans ((((H4.out.below HB.out).below hbf).alloc _).out.mono HB1.out.size)⟩
end Go.Proofs.Ytphapjbfaomblaa
