/- The law PlaceCircles, walked. -/
import Derived.Test.YtejafcdlkpmemaaPE
import Derived.Test.YtejafcdlkpmemaaPH
namespace Go.Proofs.Ytejafcdlkpmemaa
open Go Go.RowKit Go.Maps Go.Shelf
theorem pis_self {P : List Place} (h : Rises P) {i : Nat} (hi : i < P.length) {r : Int} (hr : PIs P P[i].nd r) : r = (i : Int) := by
  rcases hr with ⟨k, hk, rfl, he, _⟩ | ⟨_, he⟩
  · have : ∀ {a b : Nat} (ha : a < P.length) (hb : b < P.length), a < b → P[a].nd ≠ P[b].nd := fun ha hb hab e => by
      have := List.pairwise_iff_getElem.1 h _ _ ha hb hab
      rw [e] at this
      exact idSTO.irrefl _ this
    rcases Nat.lt_trichotomy k i with h1 | h1 | h1
    · exact absurd he (this hk hi h1)
    · rw [h1]
    · exact absurd he.symm (this hi hk h1)
  · exact absurd rfl (pfind_none.1 he _ (List.getElem_mem hi))
def CiRel (P : List Place) (w2 : World) (i : Value) (wr : World) : Prop := ∃ k : Nat, k ≤ P.length ∧ i = .int .i64 k ∧ Below w2.heap.size w2 wr
set_option maxRecDepth 100000 in
set_option maxHeartbeats 4000000 in
theorem circles_walk (a : List Id) (b : List Place) (A A' : Option Addr) (n c n' c' : Nat) (w : World) (hR : Rd w w.heap.size 3 (.slice A n c) n (a.flatMap idC)) (hR' : Rd w w.heap.size 8 (.slice A' n' c') n' (b.flatMap plC)) :
    Calls Try.prog 15 #[.slice A n c, .slice A' n' c'] w fun e w' => e = .returned (.bool true) ∧ Below w.heap.size w w' := by
  have HR := Lib.hid (fun W (hb : Below w.heap.size w W) => hR.below' hb (Nat.le_refl _))
  have HR' := Lib.hid (fun W (hb : Below w.heap.size w W) => hR'.below' hb (Nat.le_refl _))
  clear hR hR'
  by_cases hn : n ≤ 80
  · by_cases hn' : n' ≤ 80
    · go_enter Try.func15, Try.ntmps15
      go_wp2_with fail
      refine (pawake_any w).mono ?_
      rintro e w1 ⟨rfl, hb1⟩
      have HB1 := Lib.hid hb1
      go_wp2_with fail
      refine (replay_any a b A A' n c n' c' w.heap.size w1 (HR.out _ hb1) (HR'.out _ hb1) hb1.size (by omega)).mono ?_
      rintro e w2 ⟨v, T, rfl, hT, hl, hO, hb2⟩
      have hal := len_of idC 3 (fun _ => rfl) (by decide) (HR.out _ HB1.out).1
      obtain ⟨P, hP⟩ : ∃ P, replayL T = P := ⟨_, rfl⟩
      have hPr := replayL_rises T
      have hPg := replayL_good T
      have hPl := replay_len T T.length (Nat.le_refl _)
      rw [List.take_length] at hPl
      rw [hP] at hO hPr hPg hPl
      obtain ⟨Av, cv, rfl, _, _⟩ := (Rd.of_own hO).form
      have HRv := Lib.hid (fun W (hb : Below w2.heap.size w2 W) => (Rd.of_own hO).below' hb (Nat.le_refl _))
      have HPR := Lib.hid hPr
      have HPG := Lib.hid hPg
      have HB2 := Lib.hid (HB1.out.trans (hb2.mono HB1.out.size))
      have hPl8 : P.length ≤ 80 := by omega
      clear hT hl hO hb2 hal hP hPr hPg hPl hb1
      go_wp2
      go_loopw [7] (fun i wr => CiRel P w2 i wr) (fun i _ => P.length - (intOf i).toNat)
      case atStart => exact ⟨0, Nat.zero_le _, rfl, Below.refl _ _⟩
      case round =>
        obtain ⟨k, hk, rfl, hb⟩ := hrel
        by_cases hlt : k < P.length
        · obtain ⟨g, og, rfl, hBg, hcell⟩ := rd_at plC 8 (fun _ => rfl) (by decide) (HRv.out _ hb) hlt
          have hgl : g < wr.heap.size := Nat.lt_of_lt_of_le hBg hb.size
          have hF := fun W (hW : Below w2.heap.size w2 W) => (show Calls Try.prog 45 #[.slice (some ⟨g, og, none⟩) P.length cv, idV P[k].nd] W (fun e w' => e = .returned (.int .i64 (k : Int)) ∧ Grows W w') from
            (find_any P P[k].nd _ _ cv w2.heap.size W (HRv.out W hW) hW.size).mono (by rintro e w' ⟨⟨r, rfl, hr⟩, hg⟩; exact ⟨by rw [pis_self HPR.out hlt hr], hg⟩))
          have hWi := fun W (hW : Below w2.heap.size w2 W) => (show Calls Try.prog 42 #[.slice (some ⟨g, og, none⟩) P.length cv, idV P[k].pa, idV P[k].nd] W (fun e w' => e = .returned (.bool false) ∧ Below W.heap.size W w') from
            (rwithin_any P P[k].pa P[k].nd _ _ cv w2.heap.size W (HRv.out W hW) hW.size (by omega)).mono (by rintro e w' ⟨rfl, hg⟩; exact ⟨by rw [acyc_within HPR.out HPG.out.1 (List.getElem_mem hlt)], hg⟩))
          have hz := HPG.out.2 P[k] (List.getElem_mem hlt)
          obtain ⟨p, hp⟩ : ∃ p, P[k] = p := ⟨_, rfl⟩
          rw [hp] at hcell hF hWi hz
          have HF := Lib.hid hF
          have HWi := Lib.hid hWi
          have kd : Below wr.heap.size wr wr.drew := (Below.refl _ wr).drew
          have HS := Lib.hid (fun W' (hW : Below wr.heap.size wr W') => (show W'.cell? ⟨g, og + k * 8, none⟩ = some (.int .i64 p.nd.s.T) ∧ W'.cell? ⟨g, og + k * 8 + 1, none⟩ = some (.int .i64 p.nd.s.R) ∧ W'.cell? ⟨g, og + k * 8 + 2, none⟩ = some (.int .i64 p.nd.I) ∧ W'.cell? ⟨g, og + k * 8 + 3, none⟩ = some (.int .i64 p.pa.s.T) ∧ W'.cell? ⟨g, og + k * 8 + 4, none⟩ = some (.int .i64 p.pa.s.R) ∧ W'.cell? ⟨g, og + k * 8 + 5, none⟩ = some (.int .i64 p.pa.I) from
            ⟨(hW.cell (p := ⟨g, og + k * 8, none⟩) hgl).trans (hcell 0 _ rfl), (hW.cell (p := ⟨g, og + k * 8 + 1, none⟩) hgl).trans (hcell 1 _ rfl), (hW.cell (p := ⟨g, og + k * 8 + 2, none⟩) hgl).trans (hcell 2 _ rfl), (hW.cell (p := ⟨g, og + k * 8 + 3, none⟩) hgl).trans (hcell 3 _ rfl), (hW.cell (p := ⟨g, og + k * 8 + 4, none⟩) hgl).trans (hcell 4 _ rfl), (hW.cell (p := ⟨g, og + k * 8 + 5, none⟩) hgl).trans (hcell 5 _ rfl)⟩))
          have hq := eql26
          have hgd := gd26
          have hE := eq3_zero p.nd
          rw [decide_eq_false hz] at hE
          have i1 : (0 : Int) ≤ (k : Int) := by omega
          have i2 : (k : Int) < (P.length : Int) := by omega
          have hne : ((k : Int) != (k : Int)) = false := by simp
          have HB := Lib.hid hb
          have k1 : Below wr.heap.size wr wr.drew := kd
          unfold idV at HF HWi
          clear hcell hF hWi hz hp kd
          go_wp2
          go_region_held3 (fun w' => w'.cell? ⟨g, og + k * 8, none⟩ = some (.int .i64 p.nd.s.T) ∧ w'.cell? ⟨g, og + k * 8 + 1, none⟩ = some (.int .i64 p.nd.s.R) ∧ w'.cell? ⟨g, og + k * 8 + 2, none⟩ = some (.int .i64 p.nd.I) ∧ w'.cell? ⟨g, og + k * 8 + 3, none⟩ = some (.int .i64 p.pa.s.T) ∧ w'.cell? ⟨g, og + k * 8 + 4, none⟩ = some (.int .i64 p.pa.s.R) ∧ w'.cell? ⟨g, og + k * 8 + 5, none⟩ = some (.int .i64 p.pa.I))
            (first | exact HS.out _ (by assumption) | go_keep)
            (first
              | (go_at_call 45; refine (HF.out _ (HB.out.trans (k1.mono HB.out.size))).mono ?_; rintro e w3 ⟨rfl, hg3⟩; have k2 := k1.trans (hg3.below.mono k1.size); clear hg3)
              | (go_at_call 42; refine (HWi.out _ (HB.out.trans (k2.mono HB.out.size))).mono ?_; rintro e w4 ⟨rfl, hb4⟩; have k3 := k2.trans (hb4.mono k2.size); clear hb4))
          have HB4 := Lib.hid (HB.out.trans (k3.mono HB.out.size))
          clear k1 k2 k3
          go_wp2
          go_roundw
          case rel => exact ⟨k + 1, by omega, by go_num, HB4.out⟩
          case measure => simp [intOf]; omega
        · have HB := Lib.hid hb
          clear hb
          go_wp2
          go_ret
          exact ⟨rfl, HB2.out.trans (HB.out.mono HB2.out.size)⟩
    · go_enter Try.func15, Try.ntmps15
      go_wp2_with fail
      refine (pawake_any w).mono ?_
      rintro e w1 ⟨rfl, hb1⟩
      have HB1 := Lib.hid hb1
      clear hb1
      go_wp2
      go_ret
      exact ⟨rfl, HB1.out⟩
  · go_enter Try.func15, Try.ntmps15
    go_wp2_with fail
    refine (pawake_any w).mono ?_
    rintro e w1 ⟨rfl, hb1⟩
    have HB1 := Lib.hid hb1
    clear hb1
    go_wp2
    go_ret
    exact ⟨rfl, HB1.out⟩
end Go.Proofs.Ytejafcdlkpmemaa
