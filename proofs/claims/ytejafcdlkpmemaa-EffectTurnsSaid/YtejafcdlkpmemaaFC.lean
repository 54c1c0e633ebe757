/- The law EffectTurns, walked. -/
import Derived.Test.YtejafcdlkpmemaaFB
import Derived.Test.YtejafcdlkpmemaaEQ
namespace Go.Proofs.Ytejafcdlkpmemaa
open Go Go.RowKit Go.Maps Go.Shelf
def tN (i : Nat) : Stamp := ⟨((min i 1000 : Nat) : Int) + 1, 2, by unfold I64; omega, by decide⟩
def tU (i : Nat) : Stamp := ⟨((min i 1000 : Nat) : Int), 2 * ((min i 1 : Nat) : Int), by unfold I64; omega, by unfold I64; omega⟩
def tNames (n : Nat) : List Stamp := (List.range n).map tN
def tUndo (n : Nat) : List Stamp := (List.range n).map tU
theorem tNames_succ (n : Nat) : tNames (n + 1) = tNames n ++ [tN n] := by simp [tNames, List.range_succ]
theorem tUndo_succ (n : Nat) : tUndo (n + 1) = tUndo n ++ [tU n] := by simp [tUndo, List.range_succ]
theorem tNames_len (n : Nat) : (tNames n).length = n := by simp [tNames]
theorem tUndo_len (n : Nat) : (tUndo n).length = n := by simp [tUndo]
theorem tZip_len (n : Nat) : (zipH (tNames n) (tUndo n)).length = n := by rw [zipH_len, tNames_len, tUndo_len, Nat.min_self]
theorem tZip_get {n i : Nat} (h : i < n) : (zipH (tNames n) (tUndo n))[i]'(by rw [tZip_len]; exact h) = ⟨tN i, tU i⟩ := by simp [zipH, tNames, tUndo]
theorem tChain {n : Nat} (hn : n ≤ 100) : Chain (zipH (tNames n) (tUndo n)) := by
  intro i hi
  rw [tZip_len] at hi
  rw [tZip_get hi]
  refine ⟨?_, rfl, ?_, ?_⟩
  · show ((min i 1000 : Nat) : Int) + 1 = _; omega
  · show ((min i 1000 : Nat) : Int) = _; omega
  · show 2 * ((min i 1 : Nat) : Int) = _
    split <;> omega
theorem tOn_len {n : Nat} (hn : n ≤ 100) (h0 : 0 < n) {L : List Stamp} (h : OnIs (zipH (tNames n) (tUndo n)) L) : L.length = (n + 1) / 2 := by
  rw [h.same ⟨_, headsOf_self (tChain hn).low.rises, rfl⟩, (tChain hn).len (by rw [tZip_len]; exact h0), tZip_len]
theorem tOn_mem {n : Nat} (hn : n ≤ 100) {L : List Stamp} (h : OnIs (zipH (tNames n) (tUndo n)) L) {i : Nat} (hi : i < n) : tN i ∈ L ↔ (n - 1 - i) % 2 = 0 := by
  rw [h.same ⟨_, headsOf_self (tChain hn).low.rises, rfl⟩]
  have hl : i < (zipH (tNames n) (tUndo n)).length := by rw [tZip_len]; exact hi
  have := (tChain hn).on ((zipH (tNames n) (tUndo n)).length - 1 - i) i hl rfl
  rw [tZip_get hi, tZip_len] at this
  exact this
theorem tRoot {n : Nat} (hn : n ≤ 100) {i : Nat} (hi : i < n) : rootGo (zipH (tNames n) (tUndo n)) zeroS (min (tNames n).length (tUndo n).length + 1) (tN i) true = .root (tN 0) (decide (i % 2 = 0)) := by
  have hl : i < (zipH (tNames n) (tUndo n)).length := by rw [tZip_len]; exact hi
  have := (tChain hn).root i (min (tNames n).length (tUndo n).length + 1) true hl (by rw [tNames_len, tUndo_len]; omega)
  rw [tZip_get hi, tZip_get (show 0 < n by omega)] at this
  rw [this]
  by_cases h : i % 2 = 0 <;> simp [h]
def TuRel (n : Nat) (w : World) (a b i : Value) (wr : World) : Prop :=
  ∃ k : Nat, k ≤ n ∧ i = .int .i64 k ∧ wr.ownsRow w.heap.size 24 2 a k ((tNames k).flatMap stC) ∧ wr.ownsRow w.heap.size 24 2 b k ((tUndo k).flatMap stC) ∧ Apart a b ∧ Below w.heap.size w wr
set_option maxRecDepth 100000 in
set_option maxHeartbeats 4000000 in
theorem effectTurns_walk (u : Int) (hu0 : 0 ≤ u) (hu : u ≤ 255) (w : World) :
    Calls Try.prog 11 #[.int .u8 u] w fun e w' => e = .returned (.bool true) ∧ Below w.heap.size w w' := by
  obtain ⟨p, rfl⟩ : ∃ p : Nat, u = (p : Int) := ⟨u.toNat, by omega⟩
  have i0 : IntKind.i64.wrap (p : Int) = p := IntWalk.i64_in _ (by omega)
  obtain ⟨q, hq⟩ : ∃ q, p % 50 = q := ⟨_, rfl⟩
  have m0 : Int.tmod (p : Int) 50 = (q : Int) := by rw [Int.tmod_eq_emod_of_nonneg (by omega), ← hq]; rfl
  have hq50 : q < 50 := by omega
  obtain ⟨ti, hi, hz0, hz1, hz2⟩ := info_parts info24
  clear hq
  go_enter Try.func11, Try.ntmps11
  go_wp2_with fail
  refine (eawake_any w).mono ?_
  rintro e w1 ⟨rfl, hb1⟩
  have HB1 := Lib.hid hb1
  clear hb1
  go_wp2
  obtain ⟨n, hn⟩ : ∃ n : Nat, n = 1 + q := ⟨_, rfl⟩
  have hni : (1 : Int) + (q : Int) = (n : Int) := by omega
  rw [hni]
  have hn0 : 0 < n := by omega
  have hn50 : n ≤ 50 := by omega
  clear hni hn m0 hq50
  go_loopw [5, 6, 7] (fun a b i wr => TuRel n w1 a b i wr) (fun _ _ i _ => n - (intOf i).toNat)
  case atStart => exact ⟨0, Nat.zero_le _, rfl, World.ownsRow_nil _ _ _ _, World.ownsRow_nil _ _ _ _, apart_nil _, Below.refl _ _⟩
  case round =>
    obtain ⟨k, hk, rfl, hO, hO', hA, hb⟩ := hrel
    obtain ⟨A1, c1, rfl, hLc, hcm2⟩ := (Rd.of_own hO).form
    obtain ⟨A2, c2, rfl, hLc', hcm2'⟩ := (Rd.of_own hO').form
    have HO := Lib.hid hO
    have HO' := Lib.hid hO'
    have HA := Lib.hid hA
    clear hO hO' hA
    obtain ⟨wo, rfl⟩ : ∃ wo : World, wo = wr := ⟨_, rfl⟩
    by_cases hlt : k < n
    · have hN : stC (tN k) = [.int .i64 ((k : Int) + 1), .int .i64 2] := by
        have h1 : (tN k).T = (k : Int) + 1 := by show ((min k 1000 : Nat) : Int) + 1 = _; omega
        unfold stC
        rw [h1]; rfl
      have HN := Lib.hid hN
      obtain ⟨m, hm⟩ : ∃ m, min k 1 = m := ⟨_, rfl⟩
      have hU : stC (tU k) = [.int .i64 (k : Int), .int .i64 (2 * (m : Int))] := by
        have h1 : (tU k).T = (k : Int) := by show ((min k 1000 : Nat) : Int) = _; omega
        have h2 : (tU k).R = 2 * (m : Int) := by show 2 * ((min k 1 : Nat) : Int) = _; rw [hm]
        unfold stC
        rw [h1, h2]
      have HU := Lib.hid hU
      have hmm : min (k : Int) 1 = (m : Int) := by omega
      have hm1 : m ≤ 1 := by omega
      clear hN hU hm
      go_wp2_with (at_builtin; refine wpList_append_own_at _ rfl _ _ 32 rfl w1.heap.size 24 ti _ 2 16 Try.underlying32 hi hz0 hz1 hz2 rfl (by decide) _ k ((tNames k).flatMap stC) rfl (HO.out.alloc _) ⟨wo.heap.size, 0, none⟩ 1 1 [.int .i64 ((k : Int) + 1), .int .i64 2] rfl rfl ?qc (by simp [Value.oneCell']) ?q2 ?q3 ?q4 ?_)
      case qc => exact cells_new wo [.int .i64 ((k : Int) + 1), .int .i64 2] 24
      case q2 => unfold maxLen; omega
      case q3 => omega
      case q4 => have := hb.size; simp; omega
      intro v1 W4 hown hgrow _ hat
      have hA1 : Apart v1 (.slice A2 k c2) := HA.out.new HO'.out hat (Nat.le_succ _)
      have hO4 := (HO'.out.alloc (.cells #[.int .i64 ((k : Int) + 1), .int .i64 2] 24)).kept hgrow HA.out.kept
      have hb4 : Below w1.heap.size w1 W4 := (hb.alloc hb.size _).grown hgrow (by have := hb.size; simp; omega) (fun j hj => (HO.out.lt j hj).1)
      have hn4 : W4.ownsRow w1.heap.size 24 2 v1 (k + 1) ((tNames (k + 1)).flatMap stC) := by rw [tNames_succ, List.flatMap_append, List.flatMap_singleton, HN.out]; exact hown
      obtain ⟨g4, cap4, R4, rfl, _⟩ := own_parts hn4 (Nat.succ_pos _)
      have HN4 := Lib.hid hn4
      have HO4 := Lib.hid hO4
      have HA1 := Lib.hid hA1
      clear hown hgrow hat hO4 hn4 hA1
      go_wp2_with (at_builtin; refine wpList_append_own_at _ rfl _ _ 32 rfl w1.heap.size 24 ti _ 2 16 Try.underlying32 hi hz0 hz1 hz2 rfl (by decide) _ k ((tUndo k).flatMap stC) rfl (HO4.out.alloc _) ⟨W4.heap.size, 0, none⟩ 1 1 [.int .i64 (k : Int), .int .i64 (2 * (m : Int))] rfl rfl ?qc (by simp [Value.oneCell']) ?q2 ?q3 ?q4 ?_)
      case qc => exact cells_new W4 [.int .i64 (k : Int), .int .i64 (2 * (m : Int))] 24
      case q2 => unfold maxLen; omega
      case q3 => omega
      case q4 => have := hb4.size; simp; omega
      intro v2 W5 hown2 hgrow2 _ hat2
      have hA2 := HA1.out.symm.new (HN4.out) hat2 (Nat.le_succ _)
      have hN5 := Lib.hid ((HN4.out.alloc (.cells #[.int .i64 (k : Int), .int .i64 (2 * (m : Int))] 24)).kept hgrow2 HA1.out.symm.kept)
      have hU5 : W5.ownsRow w1.heap.size 24 2 v2 (k + 1) ((tUndo (k + 1)).flatMap stC) := by rw [tUndo_succ, List.flatMap_append, List.flatMap_singleton, HU.out]; exact hown2
      have HU5 := Lib.hid hU5
      have HA2 := Lib.hid hA2
      have hb5 : Below w1.heap.size w1 W5 := (hb4.alloc hb4.size _).grown hgrow2 (by have := hb4.size; simp; omega) (fun j hj => (HO4.out.lt j hj).1)
      clear hown2 hgrow2 hat2 hU5 hA2
      go_wp2
      go_roundw
      case rel => exact ⟨k + 1, by omega, by go_num, hN5.out, HU5.out, HA2.out.symm, hb5⟩
      case measure => simp [intOf]; omega
    · obtain rfl : k = n := by omega
      have HR1 := Lib.hid (Rd.of_own HO.out)
      have HR2 := Lib.hid (Rd.of_own HO'.out)
      have hlN := tNames_len k
      have hlU := tUndo_len k
      go_wp2_with fail
      refine (on_any (tNames k) (tUndo k) A1 A2 k c1 k c2 wo.heap.size wo HR1.out HR2.out (Nat.le_refl _) (by omega)).mono ?_
      rintro e W6 ⟨v, L, rfl, hO6, hL6, _, hb6⟩
      obtain ⟨A6, c6, rfl, _, _⟩ := (Rd.of_own hO6).form
      have hLl := tOn_len (by omega) hn0 hL6
      have hdv : Int.tdiv ((k : Int) + 1) 2 = (L.length : Int) := by rw [Int.tdiv_eq_ediv_of_nonneg (by omega), hLl]; omega
      have HL6 := Lib.hid hL6
      have HO6 := Lib.hid (Rd.of_own hO6)
      have h6 := hb6.size
      have HR1' := Lib.hid (fun W (hW : Below W6.heap.size W6 W) => HR1.out.below' (hb6.trans (hW.mono h6)) (Nat.le_refl _))
      have HR2' := Lib.hid (fun W (hW : Below W6.heap.size W6 W) => HR2.out.below' (hb6.trans (hW.mono h6)) (Nat.le_refl _))
      have HB6 := Lib.hid (HB1.out.trans ((hb.trans (hb6.mono hb.size)).mono HB1.out.size))
      clear hL6 hO6 hLl hb6 hb
      go_wp2
      go_loopw [9] (fun i wr => ∃ j : Nat, j ≤ k ∧ i = .int .i64 j ∧ Below W6.heap.size W6 wr) (fun i _ => k - (intOf i).toNat)
      case atStart => exact ⟨0, Nat.zero_le _, rfl, Below.refl _ _⟩
      case round =>
        obtain ⟨j, hj, rfl, hbr⟩ := hrel
        by_cases hjk : j < k
        · have hr1 := HR1'.out wr hbr
          have hr2 := HR2'.out wr hbr
          obtain ⟨g1, og, rfl, hBg, hcg⟩ := rd_at stC 2 (fun _ => rfl) (by decide) hr1 (show j < (tNames k).length by rw [tNames_len]; exact hjk)
          obtain ⟨_, _, e', _, hc0⟩ := rd_at stC 2 (fun _ => rfl) (by decide) hr1 (show 0 < (tNames k).length by rw [tNames_len]; exact hn0)
          cases e'
          have hct : (tNames k)[j]'(by rw [tNames_len]; exact hjk) = tN j := by simp [tNames]
          have hct0 : (tNames k)[0]'(by rw [tNames_len]; exact hn0) = tN 0 := by simp [tNames]
          rw [hct] at hcg
          rw [hct0] at hc0
          have hmem := tOn_mem (by omega) HL6.out hjk
          have hroot := tRoot (n := k) (by omega) hjk
          obtain ⟨y, hy⟩ : ∃ y, tN j = y := ⟨_, rfl⟩
          obtain ⟨z, hz⟩ : ∃ z, tN 0 = z := ⟨_, rfl⟩
          rw [hy] at hcg hmem hroot
          rw [hz] at hc0 hroot
          have HRo := Lib.hid hroot
          have HC0 := Lib.hid (fun W (hW : Below wr.heap.size wr W) => (show W.cell? ⟨g1, og + j * 2, none⟩ = some (.int .i64 y.T) ∧ W.cell? ⟨g1, og + j * 2 + 1, none⟩ = some (.int .i64 y.R) ∧ W.cell? ⟨g1, og, none⟩ = some (.int .i64 z.T) ∧ W.cell? ⟨g1, og + 1, none⟩ = some (.int .i64 z.R) from by
            have hl : g1 < wr.heap.size := Nat.lt_of_lt_of_le hBg (Nat.le_trans h6 hbr.size)
            refine ⟨(hW.cell (p := ⟨g1, og + j * 2, none⟩) hl).trans (hcg 0 _ rfl), (hW.cell (p := ⟨g1, og + j * 2 + 1, none⟩) hl).trans (hcg 1 _ rfl), (hW.cell (p := ⟨g1, og, none⟩) hl).trans ?_, (hW.cell (p := ⟨g1, og + 1, none⟩) hl).trans ?_⟩
            · have := hc0 0 _ rfl; simpa using this
            · have := hc0 1 _ rfl; simpa using this))
          have HH := Lib.hid (hasStamp_any L y A6 _ c6 W6.heap.size wr (HO6.out.below' hbr (Nat.le_refl _)) hbr.size)
          have HRR := Lib.hid (fun W (hW : Below wr.heap.size wr W) => root_any (tNames k) (tUndo k) y (some ⟨g1, og, none⟩) A2 k c1 k c2 wo.heap.size W (hr1.below' hW (Nat.le_trans h6 hbr.size)) (hr2.below' hW (Nat.le_trans h6 hbr.size)) (Nat.le_trans h6 (Nat.le_trans hbr.size hW.size)) (by omega))
          unfold stV at HRR HH
          have j1 : (0 : Int) ≤ (j : Int) := by omega
          have j2 : (j : Int) < (k : Int) := by omega
          obtain ⟨r2, hr2e⟩ : ∃ r2, (k - 1 - j) % 2 = r2 := ⟨_, rfl⟩
          obtain ⟨r3, hr3e⟩ : ∃ r3, j % 2 = r3 := ⟨_, rfl⟩
          have md2 : Int.tmod ((k : Int) - 1 - (j : Int)) 2 = (r2 : Int) := by rw [Int.tmod_eq_emod_of_nonneg (by omega), ← hr2e]; omega
          have md3 : Int.tmod (j : Int) 2 = (r3 : Int) := by rw [Int.tmod_eq_emod_of_nonneg (by omega), ← hr3e]; rfl
          rw [hr2e] at hmem
          rw [hr3e] at HRo
          have hq := neq24
          have hgd := gd24
          have hEz := eq2_iff z z
          rw [decide_eq_true rfl] at hEz
          have h23 : r2 < 2 ∧ r3 < 2 := by omega
          obtain ⟨c0, c1', c2', c3⟩ := HC0.out wr (Below.refl _ _)
          clear hcg hc0 hct hct0 hy hz hroot hr1 hr2 hr2e hr3e
          rcases (show r2 = 0 ∨ r2 = 1 by omega) with rfl | rfl
          · rw [decide_eq_true (hmem.2 rfl)] at HH
            clear hmem
            go_wp2_with fail
            refine HH.out.mono ?_
            rintro e W7 ⟨rfl, hg7⟩
            obtain ⟨c0, c1', c2', c3⟩ := HC0.out W7 hg7.below
            go_wp2_with fail
            refine (HRR.out W7 hg7.below).mono ?_
            rintro e W8 ⟨he, hb8⟩
            rw [HRo.out] at he
            unfold stV at he
            dsimp only [rootR] at he
            subst he
            have hb8' := hg7.below.trans (hb8.mono hg7.below.size)
            have hb9 := hb8'.alloc hb8'.size (.cells #[.int .i64 z.T, .int .i64 z.R] 24)
            have hF := hbr.trans (hb9.mono hbr.size)
            have hgl : g1 < W8.heap.size := Nat.lt_of_lt_of_le hBg (Nat.le_trans h6 (Nat.le_trans hbr.size hb8'.size))
            clear c0 c1' c2' c3
            obtain ⟨c0, c1', c2', c3⟩ := HC0.out W8 hb8'
            rcases (show r3 = 0 ∨ r3 = 1 by omega) with rfl | rfl
            · go_wp2
              go_quiet (fail)
              go_wp2
              go_roundw
              case rel => exact ⟨j + 1, by omega, by go_num, hF.trans (((Grows.refl _).drewN nq).below.mono hF.size)⟩
              case measure => simp [intOf]; omega
            · go_wp2
              go_quiet (fail)
              go_wp2
              go_roundw
              case rel => exact ⟨j + 1, by omega, by go_num, hF.trans (((Grows.refl _).drewN nq).below.mono hF.size)⟩
              case measure => simp [intOf]; omega
          · rw [decide_eq_false (fun h => by have := hmem.1 h; omega)] at HH
            clear hmem
            go_wp2_with fail
            refine HH.out.mono ?_
            rintro e W7 ⟨rfl, hg7⟩
            obtain ⟨c0, c1', c2', c3⟩ := HC0.out W7 hg7.below
            go_wp2_with fail
            refine (HRR.out W7 hg7.below).mono ?_
            rintro e W8 ⟨he, hb8⟩
            rw [HRo.out] at he
            unfold stV at he
            dsimp only [rootR] at he
            subst he
            have hb8' := hg7.below.trans (hb8.mono hg7.below.size)
            have hb9 := hb8'.alloc hb8'.size (.cells #[.int .i64 z.T, .int .i64 z.R] 24)
            have hF := hbr.trans (hb9.mono hbr.size)
            have hgl : g1 < W8.heap.size := Nat.lt_of_lt_of_le hBg (Nat.le_trans h6 (Nat.le_trans hbr.size hb8'.size))
            clear c0 c1' c2' c3
            obtain ⟨c0, c1', c2', c3⟩ := HC0.out W8 hb8'
            rcases (show r3 = 0 ∨ r3 = 1 by omega) with rfl | rfl
            · go_wp2
              go_quiet (fail)
              go_wp2
              go_roundw
              case rel => exact ⟨j + 1, by omega, by go_num, hF.trans (((Grows.refl _).drewN nq).below.mono hF.size)⟩
              case measure => simp [intOf]; omega
            · go_wp2
              go_quiet (fail)
              go_wp2
              go_roundw
              case rel => exact ⟨j + 1, by omega, by go_num, hF.trans (((Grows.refl _).drewN nq).below.mono hF.size)⟩
              case measure => simp [intOf]; omega
        · obtain rfl : j = k := by omega
          have HF := Lib.hid (HB6.out.trans (hbr.mono HB6.out.size))
          go_wp2
          go_ret
          exact ⟨rfl, HF.out⟩
end Go.Proofs.Ytejafcdlkpmemaa
