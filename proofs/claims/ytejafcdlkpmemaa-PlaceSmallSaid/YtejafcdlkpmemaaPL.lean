/- The document's Replay. -/
import Derived.Test.YtejafcdlkpmemaaPK
import Derived.Test.YtejafcdlkpmemaaPP2
import Derived.Test.YtejafcdlkpmemaaPD
import Derived.Test.YtejafcdlkpmemaaPE
import Derived.BigRegion
namespace Go.Proofs.Ytejafcdlkpmemaa
open Go Go.RowKit Go.Maps Go.Shelf
def RrRel (T : List Told) (w1 : World) (out i : Value) (wr : World) : Prop :=
  ∃ k : Nat, k ≤ T.length ∧ i = .int .i64 k ∧ wr.ownsRow w1.heap.size 71 8 out (replayL (T.take k)).length ((replayL (T.take k)).flatMap plC) ∧ Below w1.heap.size w1 wr
theorem toldOf_of_sort {l L : List Told} (h1 : RisT L) (h2 : ∀ h, h ∈ L ↔ FirstK Told.at_ l h) : ToldOf l L := ⟨List.pairwise_map.1 h1, h2⟩
def InsRelP (L : List Place) (x : Place) (n : Nat) (w : World) (v : Value) (i : Value) (wr : World) : Prop :=
  ∃ P S, L = P ++ S ∧ i = .int .i64 (P.length : Nat) ∧ (∀ y ∈ S, x.nd.Lt y.nd) ∧ wr.ownsRow w.heap.size 71 8 v n ((P ++ x :: S).flatMap plC) ∧ Below w.heap.size w wr
def swapP (w : World) (g j : Nat) (y x : Place) : World :=
  ((((((((((((((((w.setCell ⟨g, j * 8 + 8, none⟩ (.int .i64 y.nd.s.T)).setCell ⟨g, j * 8 + 8 + 1, none⟩ (.int .i64 y.nd.s.R)).setCell ⟨g, j * 8 + 8 + 2, none⟩ (.int .i64 y.nd.I)).setCell ⟨g, j * 8 + 8 + 3, none⟩ (.int .i64 y.pa.s.T)).setCell ⟨g, j * 8 + 8 + 4, none⟩ (.int .i64 y.pa.s.R)).setCell ⟨g, j * 8 + 8 + 5, none⟩ (.int .i64 y.pa.I)).setCell ⟨g, j * 8 + 8 + 6, none⟩ (.string y.nm)).setCell ⟨g, j * 8 + 8 + 7, none⟩ (.bool y.dir)).setCell ⟨g, j * 8, none⟩ (.int .i64 x.nd.s.T)).setCell ⟨g, j * 8 + 1, none⟩ (.int .i64 x.nd.s.R)).setCell ⟨g, j * 8 + 2, none⟩ (.int .i64 x.nd.I)).setCell ⟨g, j * 8 + 3, none⟩ (.int .i64 x.pa.s.T)).setCell ⟨g, j * 8 + 4, none⟩ (.int .i64 x.pa.s.R)).setCell ⟨g, j * 8 + 5, none⟩ (.int .i64 x.pa.I)).setCell ⟨g, j * 8 + 6, none⟩ (.string x.nm)).setCell ⟨g, j * 8 + 7, none⟩ (.bool x.dir)).drew
theorem swapP_eq (w : World) (g j : Nat) (y x : Place) : swapP w g j y x = ((w.setCells g (j * 8 + 8) (plC y)).setCells g (j * 8) (plC x)).drew := rfl
theorem swapP_own {w : World} {base : Nat} {n g cap j : Nat} {P S : List Place} {y x : Place} (hj : P.length = j) (h : w.ownsRow base 71 8 (.slice (some ⟨g, 0, none⟩) n cap) n ((P ++ y :: x :: S).flatMap plC)) (hn : 0 < n) :
    (swapP w g j y x).ownsRow base 71 8 (.slice (some ⟨g, 0, none⟩) n cap) n ((P ++ x :: y :: S).flatMap plC) := by
  have := own_swap (enc := plC) (k := 8) (fun _ => rfl) h hn
  rw [hj] at this
  rw [swapP_eq]
  exact own_drew this
theorem swapP_below {B : Nat} {a w : World} (h : Below B a w) {g : Nat} (hg : B ≤ g) (j : Nat) (y x : Place) : Below B a (swapP w g j y x) := by
  rw [swapP_eq]
  exact (setCells_below (setCells_below h hg _ _) hg _ _).drew
theorem rr_step {T : List Told} {k n : Nat} {w1 wr : World} {v : Value} {L P S : List Place} {x : Place} (hlt : k < T.length) (hSN : replayL (T.take (k + 1)) = pstep L x) (hNo : pstep L x = insertP x L) (hr : Rises L) (hno : pfind L x.nd = none) (hn : L.length + 1 = n)
    (hLe : L = P ++ S) (hSl : ∀ y ∈ S, x.nd.Lt y.nd) (hP : ∀ z, P.getLast? = some z → ¬ x.nd.Lt z.nd) (ho : wr.ownsRow w1.heap.size 71 8 v n ((P ++ x :: S).flatMap plC)) (hb : Below w1.heap.size w1 wr) : RrRel T w1 v (.int .i64 ((k : Int) + 1)) wr := by
  have hI : P ++ x :: S = insertP x L := by subst hLe; exact put_same hr hno hSl hP
  have hlen : (P ++ x :: S).length = n := by rw [← hn, hLe]; simp; omega
  refine ⟨k + 1, hlt, by simp, ?_, hb⟩
  rw [hSN, hNo, ← hI, hlen]
  exact ho
theorem own_setOther {w : World} {base : Nat} {e : TypeId} {K n b i : Nat} {v u : Value} {xs : List Value} (h : w.ownsRow base e K v n xs) (hne : some b ≠ v.ownBlock) : (w.setCell ⟨b, i, none⟩ u).ownsRow base e K v n xs := by
  refine ⟨h.1, ?_⟩
  rcases h.2 with h2 | ⟨g, cap, cur, h1, h2, h3, h4⟩
  · exact .inl h2
  · refine .inr ⟨g, cap, cur, h1, h2, (Below.heap_setCell _ _ _ _ (fun e => hne ?_)).trans h3, h4⟩
    subst h1
    simp [Value.ownBlock, e]
set_option maxRecDepth 100000 in
set_option maxHeartbeats 8000000 in
theorem rreplay_any (aa : List Id) (bl : List Place) (A A' : Option Addr) (n c n' c' B : Nat) (w : World) (hR : Rd w B 3 (.slice A n c) n (aa.flatMap idC)) (hR' : Rd w B 8 (.slice A' n' c') n' (bl.flatMap plC)) (hB : B ≤ w.heap.size) (hn : n ≤ 90000) :
    Calls Try.prog 40 #[.slice A n c, .slice A' n' c'] w (ReplayPost aa bl w) := by
  obtain rfl := len_of idC 3 (fun _ => rfl) (by decide) hR.1
  have HS0 := Lib.hid (rtsorted_any aa bl A A' _ c n' c' B w hR hR' hB (by omega))
  clear hR hR'
  obtain ⟨i0, hi, hz0, hz1, hz2⟩ := info_parts info71
  go_enter Try.func40, Try.ntmps40
  go_wp2_with fail
  refine HS0.out.mono ?_
  rintro e w1 ⟨sv, T, rfl, hO, hF, hM, hl, hb⟩
  obtain ⟨A1, c1, rfl, hc1, hcm⟩ := (Rd.of_own hO).form
  have HR1 := Lib.hid (Rd.of_own hO)
  have HTO := Lib.hid (toldOf_of_sort hF hM)
  have HB := Lib.hid hb
  have hTl : T.length ≤ aa.length := by have := zipT_len aa bl; omega
  clear hO hF hM hb HS0 hcm hl
  go_wp2
  go_loopw [6, 7] (fun out i wr => RrRel T w1 out i wr) (fun _ i _ => T.length - (intOf i).toNat)
  case atStart => exact ⟨0, Nat.zero_le _, rfl, World.ownsRow_nil _ _ _ _, Below.refl _ _⟩
  case round =>
    obtain ⟨k, hk, rfl, hO, hb⟩ := hrel
    have hLl := replay_len T k hk
    have hLr := replayL_rises (T.take k)
    obtain ⟨Av, cv, rfl, hLc, hcm2⟩ := (Rd.of_own hO).form
    obtain ⟨wo, rfl⟩ : ∃ wo : World, wo = wr := ⟨_, rfl⟩
    by_cases hlt : k < T.length
    · obtain ⟨ba, oa, rfl, hBa, hca⟩ := rd_at toC 11 (fun _ => rfl) (by decide) HR1.out hlt
      have hbc : ∀ j u, (toC T[k])[j]? = some u → wo.cell? ⟨ba, oa + k * 11 + j, none⟩ = some u := fun j u hu => (hb.cell (p := ⟨ba, oa + k * 11 + j, none⟩) hBa).trans (hca j u hu)
      have hsn := replay_take hlt
      obtain ⟨L, hLe⟩ : ∃ L, replayL (T.take k) = L := ⟨_, rfl⟩
      rw [hLe] at hsn hO hLl hLr hLc ⊢
      obtain ⟨t, ht⟩ : ∃ t, T[k] = t := ⟨_, rfl⟩
      rw [ht] at hbc hsn
      obtain ⟨at_, p⟩ := t
      dsimp only at hsn
      have HSN := Lib.hid hsn
      have HLR := Lib.hid hLr
      have HO := Lib.hid hO
      have c3 := hbc 3 _ rfl
      have c4 := hbc 4 _ rfl
      have c5 := hbc 5 _ rfl
      have c6 := hbc 6 _ rfl
      have c7 := hbc 7 _ rfl
      have c8 := hbc 8 _ rfl
      have c9 := hbc 9 _ rfl
      have c10 := hbc 10 _ rfl
      clear hbc hca ht hsn hLe hLr hO hcm2
      have i1 : (0 : Int) ≤ (k : Int) := by omega
      have i2 : (k : Int) < (T.length : Int) := by omega
      have hq := eql26
      have hgd := gd26
      have hE := eq3_zero p.nd
      have HStay := Lib.hid (fun (W : World) (hW : Below wo.heap.size wo W) (hp : pstep L p = L) => (show RrRel T w1 (.slice Av L.length cv) (.int .i64 ((k : Int) + 1)) W from
        ⟨k + 1, by omega, by simp, by rw [HSN.out, hp]; exact own_grows HO.out hW, hb.trans (hW.mono hb.size)⟩))
      by_cases hz : p.nd = zeroI
      · rw [decide_eq_true hz] at hE
        have HZ := Lib.hid hz
        clear hz
        go_wp2
        refine ⟨?_, by simp [intOf]; omega⟩
        exact HStay.out _ (((Grows.refl wo).alloc _).below) (pstep_stay (.inl HZ.out))
      · rw [decide_eq_false hz] at hE
        have HZ := Lib.hid hz
        clear hz
        go_wp2_with fail
        obtain ⟨w3, hw3⟩ : ∃ W, wo.alloc (.cells (plC p).toArray 71) = W := ⟨_, rfl⟩
        have hg3 : Grows wo w3 := by rw [← hw3]; exact (Grows.refl wo).alloc _
        have hr3 : w3.heap[wo.heap.size]? = some (.cells (plC p).toArray 71 (0, 0)) := by rw [← hw3]; exact heap_alloc_new wo _
        unfold plC at hw3
        rw [hw3]
        have hO3 := own_grows HO.out hg3.below
        have hw := rwithin_any L p.pa p.nd Av L.length cv w3.heap.size w3 (Rd.of_own hO3) (Nat.le_refl _) (by omega)
        obtain ⟨R, hRe⟩ : ∃ R, withinGo L (L.length + 1) p.pa p.nd = R := ⟨_, rfl⟩
        rw [hRe] at hw
        have HRe := Lib.hid hRe
        unfold idV at hw
        have HW := Lib.hid hw
        have hk3 := hg3.below
        have hs3 := (Array.getElem?_eq_some_iff.1 hr3).1
        clear hw3 hg3 hw hRe hO3
        refine HW.out.mono ?_
        rintro e w4 ⟨rfl, hb4⟩
        have hk4 : Below wo.heap.size wo w4 := hk3.trans (hb4.mono hk3.size)
        have hr4 := (hb4.block _ hs3).trans hr3
        obtain ⟨b8, hb8⟩ : ∃ k, wo.heap.size = k := ⟨_, rfl⟩
        have HK4 := Lib.hid hk4
        rw [hb8] at hr4 ⊢
        have HB8 := Lib.hid hb8
        clear hr3 hb4 hk3 hs3 hk4 hb8
        cases R with
        | true =>
          clear hr4
          go_wp2
          refine ⟨?_, by simp [intOf]; omega⟩
          exact HStay.out _ HK4.out (pstep_stay (.inr HRe.out))
        | false =>
          have HNo := Lib.hid (pstep_put HZ.out HRe.out)
          have hO4 := own_grows HO.out HK4.out
          have HF := Lib.hid (find_any L p.nd Av L.length cv w4.heap.size w4 (Rd.of_own hO4) (Nat.le_refl _))
          have d0 : w4.cell? ⟨b8, 0, none⟩ = some (.int .i64 p.nd.s.T) := cell_of_row _ _ 0 _ _ _ hr4
          have d1 : w4.cell? ⟨b8, 1, none⟩ = some (.int .i64 p.nd.s.R) := cell_of_row _ _ 1 _ _ _ hr4
          have d2 : w4.cell? ⟨b8, 2, none⟩ = some (.int .i64 p.nd.I) := cell_of_row _ _ 2 _ _ _ hr4
          have HO4 := Lib.hid hO4
          have HR4 := Lib.hid hr4
          unfold idV at HF
          clear hO4 hr4
          go_wp2_with fail
          refine HF.out.mono ?_
          rintro e w5 ⟨⟨r, rfl, hr⟩, hg5⟩
          have hb5 := hg5.below
          have hr5 := (hb5.block _ (Array.getElem?_eq_some_iff.1 HR4.out).1).trans HR4.out
          have hO5 := own_grows HO4.out hb5
          have hk5 : Below wo.heap.size wo w5 := HK4.out.trans (hb5.mono HK4.out.size)
          have HO5 := Lib.hid hO5
          have HK5 := Lib.hid hk5
          have HR5 := Lib.hid hr5
          have f0 : w5.cell? ⟨b8, 0, none⟩ = some (.int .i64 p.nd.s.T) := cell_of_row _ _ 0 _ _ _ hr5
          have f1 : w5.cell? ⟨b8, 1, none⟩ = some (.int .i64 p.nd.s.R) := cell_of_row _ _ 1 _ _ _ hr5
          have f2 : w5.cell? ⟨b8, 2, none⟩ = some (.int .i64 p.nd.I) := cell_of_row _ _ 2 _ _ _ hr5
          have f3 : w5.cell? ⟨b8, 3, none⟩ = some (.int .i64 p.pa.s.T) := cell_of_row _ _ 3 _ _ _ hr5
          have f4 : w5.cell? ⟨b8, 4, none⟩ = some (.int .i64 p.pa.s.R) := cell_of_row _ _ 4 _ _ _ hr5
          have f5 : w5.cell? ⟨b8, 5, none⟩ = some (.int .i64 p.pa.I) := cell_of_row _ _ 5 _ _ _ hr5
          have f6 : w5.cell? ⟨b8, 6, none⟩ = some (.string p.nm) := cell_of_row _ _ 6 _ _ _ hr5
          have f7 : w5.cell? ⟨b8, 7, none⟩ = some (.bool p.dir) := cell_of_row _ _ 7 _ _ _ hr5
          have z0 : ∀ i, w5.frozen? ⟨b8, i, none⟩ = false := fun i => by simp [World.frozen?, hr5]
          clear hO5 hk5 hr5 hg5 hb5 d0 d1 d2 HF HR4 HO4
          rcases hr with ⟨kk, hkk, rfl, hnd, _⟩ | ⟨rfl, hno⟩
          · obtain ⟨P, q, S, hLe, hPk⟩ : ∃ P q S, L = P ++ q :: S ∧ P.length = kk := ⟨L.take kk, L[kk], L.drop (kk + 1), by rw [← List.drop_eq_getElem_cons hkk, List.take_append_drop], by rw [List.length_take]; omega⟩
            have hqn : q.nd = p.nd := by subst hLe; subst hPk; simpa using hnd
            have i3 : (0 : Int) ≤ (kk : Int) := by omega
            have i4 : (kk : Int) < (L.length : Int) := by omega
            obtain ⟨g, cap, rfl, hgb⟩ : ∃ g cap, Av = some ⟨g, 0, none⟩ ∧ w1.heap.size ≤ g := by
              rcases HO5.out.2 with ⟨h, h0⟩ | ⟨g, cap, cur, h, hg, _⟩
              · omega
              · injection h with h; exact ⟨g, cap, h, hg⟩
            have hgne : g ≠ b8 := by have := (HO.out.lt g rfl).2; have := HB8.out; omega
            have cy : ∀ r u, (plC q)[r]? = some u → w5.cell? ⟨g, kk * 8 + r, none⟩ = some u := fun r u hu => (own_cell HO5.out _ u (by rw [hLe, ← hPk]; exact flat_mid plC 8 (fun _ => rfl) P S q r u hu)).1
            have y0 : w5.cell? ⟨g, kk * 8, none⟩ = some (.int .i64 q.nd.s.T) := cy 0 _ rfl
            have y1 : w5.cell? ⟨g, kk * 8 + 1, none⟩ = some (.int .i64 q.nd.s.R) := cy 1 _ rfl
            have y2 : w5.cell? ⟨g, kk * 8 + 2, none⟩ = some (.int .i64 q.nd.I) := cy 2 _ rfl
            have y3 : w5.cell? ⟨g, kk * 8 + 3, none⟩ = some (.int .i64 q.pa.s.T) := cy 3 _ rfl
            have y4 : w5.cell? ⟨g, kk * 8 + 4, none⟩ = some (.int .i64 q.pa.s.R) := cy 4 _ rfl
            have y5 : w5.cell? ⟨g, kk * 8 + 5, none⟩ = some (.int .i64 q.pa.I) := cy 5 _ rfl
            have y6 : w5.cell? ⟨g, kk * 8 + 6, none⟩ = some (.string q.nm) := cy 6 _ rfl
            have y7 : w5.cell? ⟨g, kk * 8 + 7, none⟩ = some (.bool q.dir) := cy 7 _ rfl
            have hfz : ∀ i, w5.frozen? ⟨g, i, none⟩ = false := own_frozen HO5.out (by omega)
            have hne2 : b8 ≠ g := hgne.symm
            have HLE := Lib.hid (show L = P ++ q :: S ∧ P.length = kk ∧ q.nd = p.nd from ⟨hLe, hPk, hqn⟩)
            clear cy hLe hPk hqn hnd
            go_wp2
            refine ⟨?_, by simp [intOf]; omega⟩
            obtain ⟨e1, e2, e3⟩ := HLE.out
            change RrRel T w1 _ _ ((w5.setCell ⟨b8, 7, none⟩ (.bool q.dir)).setCells g (kk * 8) (plC { p with dir := q.dir }))
            have hOb := own_setOther (b := b8) (i := 7) (u := .bool q.dir) HO5.out (by simp [Value.ownBlock]; exact hne2)
            have hx : L.flatMap plC = P.flatMap plC ++ plC q ++ S.flatMap plC := by rw [e1]; simp
            rw [hx] at hOb
            have h9 := own_sets hOb (plC { p with dir := q.dir }) rfl (by omega)
            rw [flatl plC 8 (fun _ => rfl), e2] at h9
            have hI : P ++ { p with dir := q.dir } :: S = insertP p L := by rw [e1]; exact set_same (e1 ▸ HLR.out) e3
            have hIl : (insertP p L).length = L.length := by rw [← hI, e1]; simp
            have hbw := hb.trans (HK5.out.mono hb.size)
            refine ⟨k + 1, by omega, by simp, ?_, setCells_below (hbw.setCell (p := ⟨b8, 7, none⟩) (by have := HB8.out; have := hb.size; simp; omega) _) hgb _ _⟩
            rw [HSN.out, HNo.out, hIl, ← hI]
            simpa using h9
          · obtain ⟨x, rfl⟩ : ∃ x, x = p := ⟨_, rfl⟩
            have HNil := Lib.hid hno
            have hbq : Below w1.heap.size w1 w5 := hb.trans (HK5.out.mono hb.size)
            clear hno
            go_wp2_with (at_builtin; refine wpList_append_own _ rfl _ _ 60 rfl w1.heap.size 71 i0 _ 8 72 Try.underlying60 hi hz0 hz1 hz2 rfl (by decide) _ _ _ rfl (HO5.out.alloc _) ⟨w5.heap.size, 0, none⟩ 1 1 (plC x) rfl rfl ?qc2 (plC_one x) ?qc4 ?qc5 ?qc6 ?_)
            case qc2 => exact cells_new w5 (plC x) 71
            case qc4 => unfold maxLen; omega
            case qc5 => omega
            case qc6 => have := hbq.size; simp; omega
            intro v' W4 hown hgrow _
            obtain ⟨g, cap, rfl, hgB, hgc, hgm, ho4⟩ := own_snoc hown
            have hb4 : Below w1.heap.size w1 W4 := (hbq.alloc hbq.size _).grown hgrow (by have := hbq.size; simp; omega) (fun j hj => by
              rcases (HO5.out).lt j hj with ⟨h1, _⟩
              exact h1)
            clear hown f0 f1 f2 f3 f4 f5 f6 f7 z0
            obtain ⟨n1, hn1⟩ : ∃ n1, L.length + 1 = n1 := ⟨_, rfl⟩
            have hn1L : L.length < n1 := by omega
            have hn1k : n1 ≤ k + 1 := by omega
            rw [hn1] at ho4 hgc ⊢
            have HN1 := Lib.hid hn1
            have HO4 := Lib.hid ho4
            unfold maxLen at hgm
            clear hgrow ho4 hbq hn1
            go_wp2
            go_loopw [10] (fun i wr => InsRelP L x n1 w1 (.slice (some ⟨g, 0, none⟩) n1 cap) i wr) (fun i _ => (intOf i).toNat)
            case atStart => exact ⟨L, [], by simp, by have := HN1.out; congr 1; omega, by simp, HO4.out, hb4⟩
            case round =>
              obtain ⟨P, S, hLe, rfl, hSlt, hOr, hbr⟩ := hrel
              have HLe := Lib.hid hLe
              have HSl := Lib.hid hSlt
              have HOr := Lib.hid hOr
              have hgl : g < wr.heap.size := (hOr.lt g rfl).2
              clear hLe hSlt hOr hb4 HO4
              rcases list_snoc P with rfl | ⟨P', y, rfl⟩
              · go_wp2
                go_quiet (fail)
                go_wp2
                exact ⟨rr_step hlt HSN.out HNo.out HLR.out HNil.out HN1.out HLe.out HSl.out (by simp) (own_grows HOr.out ((Grows.refl wr).drewN nq).below) (hbr.trans (((Grows.refl wr).drewN nq).below.mono hbr.size)), by simp [intOf]; omega⟩
              · obtain ⟨j, hj⟩ : ∃ j, P'.length = j := ⟨_, rfl⟩
                have hkj : ((P' ++ [y]).length : Int) = (j : Int) + 1 := by rw [List.length_append, hj]; rfl
                rw [hkj]
                have hM : (P' ++ [y]) ++ x :: S = P' ++ y :: x :: S := by simp
                rw [hM] at HOr
                have hjl : j + 1 < n1 := by have := congrArg List.length HLe.out; simp at this; omega
                have cy : ∀ r u, (plC y)[r]? = some u → wr.cell? ⟨g, j * 8 + r, none⟩ = some u := fun r u hu => (own_cell HOr.out _ u (hj ▸ flat_mid plC 8 (fun _ => rfl) P' (x :: S) y r u hu)).1
                have cx : ∀ r u, (plC x)[r]? = some u → wr.cell? ⟨g, (j + 1) * 8 + r, none⟩ = some u := fun r u hu => (own_cell HOr.out _ u (by
                  have := flat_mid plC 8 (fun _ => rfl) (P' ++ [y]) S x r u hu
                  rw [List.length_append, hj] at this
                  simpa using this)).1
                have hk3 : (j + 1) * 8 = j * 8 + 8 := by omega
                rw [hk3] at cx
                have HJ := Lib.hid hj
                have HC := Lib.hid (fun w => rcmpId_any x.nd y.nd w)
                unfold idV at HC
                obtain ⟨r, hr⟩ : ∃ r, x.nd.cmp y.nd = r := ⟨_, rfl⟩
                rw [hr] at HC
                have HRR := Lib.hid hr
                clear hr
                have a0 : ∀ n os, (Sort.grow (wr.drewN n) os).cell? ⟨g, j * 8, none⟩ = some (.int .i64 y.nd.s.T) := fun n os => cell_grown hgl (cy 0 _ rfl) n os
                have a1 : ∀ n os, (Sort.grow (wr.drewN n) os).cell? ⟨g, j * 8 + 1, none⟩ = some (.int .i64 y.nd.s.R) := fun n os => cell_grown hgl (cy 1 _ rfl) n os
                have a2 : ∀ n os, (Sort.grow (wr.drewN n) os).cell? ⟨g, j * 8 + 2, none⟩ = some (.int .i64 y.nd.I) := fun n os => cell_grown hgl (cy 2 _ rfl) n os
                have a3 : ∀ n os, (Sort.grow (wr.drewN n) os).cell? ⟨g, j * 8 + 3, none⟩ = some (.int .i64 y.pa.s.T) := fun n os => cell_grown hgl (cy 3 _ rfl) n os
                have a4 : ∀ n os, (Sort.grow (wr.drewN n) os).cell? ⟨g, j * 8 + 4, none⟩ = some (.int .i64 y.pa.s.R) := fun n os => cell_grown hgl (cy 4 _ rfl) n os
                have a5 : ∀ n os, (Sort.grow (wr.drewN n) os).cell? ⟨g, j * 8 + 5, none⟩ = some (.int .i64 y.pa.I) := fun n os => cell_grown hgl (cy 5 _ rfl) n os
                have a6 : ∀ n os, (Sort.grow (wr.drewN n) os).cell? ⟨g, j * 8 + 6, none⟩ = some (.string y.nm) := fun n os => cell_grown hgl (cy 6 _ rfl) n os
                have a7 : ∀ n os, (Sort.grow (wr.drewN n) os).cell? ⟨g, j * 8 + 7, none⟩ = some (.bool y.dir) := fun n os => cell_grown hgl (cy 7 _ rfl) n os
                have b0 : ∀ n os, (Sort.grow (wr.drewN n) os).cell? ⟨g, j * 8 + 8, none⟩ = some (.int .i64 x.nd.s.T) := fun n os => cell_grown hgl (cx 0 _ rfl) n os
                have b1 : ∀ n os, (Sort.grow (wr.drewN n) os).cell? ⟨g, j * 8 + 9, none⟩ = some (.int .i64 x.nd.s.R) := fun n os => cell_grown hgl (cx 1 _ rfl) n os
                have b2 : ∀ n os, (Sort.grow (wr.drewN n) os).cell? ⟨g, j * 8 + 10, none⟩ = some (.int .i64 x.nd.I) := fun n os => cell_grown hgl (cx 2 _ rfl) n os
                have b3 : ∀ n os, (Sort.grow (wr.drewN n) os).cell? ⟨g, j * 8 + 11, none⟩ = some (.int .i64 x.pa.s.T) := fun n os => cell_grown hgl (cx 3 _ rfl) n os
                have b4 : ∀ n os, (Sort.grow (wr.drewN n) os).cell? ⟨g, j * 8 + 12, none⟩ = some (.int .i64 x.pa.s.R) := fun n os => cell_grown hgl (cx 4 _ rfl) n os
                have b5 : ∀ n os, (Sort.grow (wr.drewN n) os).cell? ⟨g, j * 8 + 13, none⟩ = some (.int .i64 x.pa.I) := fun n os => cell_grown hgl (cx 5 _ rfl) n os
                have b6 : ∀ n os, (Sort.grow (wr.drewN n) os).cell? ⟨g, j * 8 + 14, none⟩ = some (.string x.nm) := fun n os => cell_grown hgl (cx 6 _ rfl) n os
                have b7 : ∀ n os, (Sort.grow (wr.drewN n) os).cell? ⟨g, j * 8 + 15, none⟩ = some (.bool x.dir) := fun n os => cell_grown hgl (cx 7 _ rfl) n os
                have i3 : (0 : Int) ≤ (j : Int) + 1 := by omega
                have i4 : (j : Int) + 1 < (n1 : Int) := by omega
                have i5 : (0 : Int) ≤ (j : Int) := by omega
                have i6 : (j : Int) < (n1 : Int) := by omega
                have hw : IntKind.i64.wrap (j : Int) = j := IntWalk.i64_in _ (by omega)
                clear hj hkj hM cx cy
                rcases hc : decide (r < 0) with _ | _
                · have HCn := Lib.hid hc
                  go_wp2
                  refine region_grown (by kernel_rfl) (by kernel_rfl) ?_
                  repeat (quiet_step ((go_at_call 51; exact grown_of_grows (HC.out _))))
                  refine wpQuiet_nil ?_
                  rintro W ⟨⟨nq, osq⟩, hW⟩
                  have hgW : Grows wr W := ⟨nq, osq, hW⟩
                  have hbW := hbr.trans (hgW.below.mono hbr.size)
                  have HOW := Lib.hid (own_grows HOr.out hgW.below)
                  clear hW hgW hbr a0 a1 a2 a3 a4 a5 a6 a7 b0 b1 b2 b3 b4 b5 b6 b7
                  go_wp2
                  exact ⟨rr_step (P := P' ++ [y]) (S := S) hlt HSN.out HNo.out HLR.out HNil.out HN1.out HLe.out HSl.out (by
                    intro z hz
                    have : y = z := by simpa using hz
                    subst this
                    intro h
                    have h2 := (icmp_id_neg _ _).2 h
                    rw [HRR.out] at h2
                    have := HCn.out
                    simp at this
                    omega) (by simpa using HOW.out) hbW, by simp [intOf]; omega⟩
                · have HCn := Lib.hid hc
                  go_wp2
                  refine region_grown (by kernel_rfl) (by kernel_rfl) ?_
                  repeat (quiet_step ((go_at_call 51; exact grown_of_grows (HC.out _))))
                  refine wpQuiet_nil ?_
                  rintro W ⟨⟨nq, osq⟩, hW⟩
                  have hgW : Grows wr W := ⟨nq, osq, hW⟩
                  have hbW := hbr.trans (hgW.below.mono hbr.size)
                  have hoW := own_grows HOr.out hgW.below
                  have A0 : W.cell? ⟨g, j * 8, none⟩ = some (.int .i64 y.nd.s.T) := hW ▸ a0 nq osq
                  have A1 : W.cell? ⟨g, j * 8 + 1, none⟩ = some (.int .i64 y.nd.s.R) := hW ▸ a1 nq osq
                  have A2 : W.cell? ⟨g, j * 8 + 2, none⟩ = some (.int .i64 y.nd.I) := hW ▸ a2 nq osq
                  have A3 : W.cell? ⟨g, j * 8 + 3, none⟩ = some (.int .i64 y.pa.s.T) := hW ▸ a3 nq osq
                  have A4 : W.cell? ⟨g, j * 8 + 4, none⟩ = some (.int .i64 y.pa.s.R) := hW ▸ a4 nq osq
                  have A5 : W.cell? ⟨g, j * 8 + 5, none⟩ = some (.int .i64 y.pa.I) := hW ▸ a5 nq osq
                  have A6 : W.cell? ⟨g, j * 8 + 6, none⟩ = some (.string y.nm) := hW ▸ a6 nq osq
                  have A7 : W.cell? ⟨g, j * 8 + 7, none⟩ = some (.bool y.dir) := hW ▸ a7 nq osq
                  have B0 : W.cell? ⟨g, j * 8 + 8, none⟩ = some (.int .i64 x.nd.s.T) := hW ▸ b0 nq osq
                  have B1 : W.cell? ⟨g, j * 8 + 9, none⟩ = some (.int .i64 x.nd.s.R) := hW ▸ b1 nq osq
                  have B2 : W.cell? ⟨g, j * 8 + 10, none⟩ = some (.int .i64 x.nd.I) := hW ▸ b2 nq osq
                  have B3 : W.cell? ⟨g, j * 8 + 11, none⟩ = some (.int .i64 x.pa.s.T) := hW ▸ b3 nq osq
                  have B4 : W.cell? ⟨g, j * 8 + 12, none⟩ = some (.int .i64 x.pa.s.R) := hW ▸ b4 nq osq
                  have B5 : W.cell? ⟨g, j * 8 + 13, none⟩ = some (.int .i64 x.pa.I) := hW ▸ b5 nq osq
                  have B6 : W.cell? ⟨g, j * 8 + 14, none⟩ = some (.string x.nm) := hW ▸ b6 nq osq
                  have B7 : W.cell? ⟨g, j * 8 + 15, none⟩ = some (.bool x.dir) := hW ▸ b7 nq osq
                  have hfz : ∀ i, W.frozen? ⟨g, i, none⟩ = false := own_frozen hoW (by omega)
                  have HOW := Lib.hid hoW
                  clear hW hgW hbr hoW a0 a1 a2 a3 a4 a5 a6 a7 b0 b1 b2 b3 b4 b5 b6 b7
                  go_wp2
                  go_region
                  have HSW := Lib.hid (swapP_own HJ.out HOW.out (by omega))
                  have HBW := Lib.hid (swapP_below hbW hgB j y x)
                  change Exit.inBlock _ _ _ _ (swapP W g j y x)
                  generalize swapP W g j y x = W5 at *
                  clear A0 A1 A2 A3 A4 A5 A6 A7 B0 B1 B2 B3 B4 B5 B6 B7 hfz HOW hbW
                  go_wp2
                  go_roundw
                  case rel =>
                    refine ⟨P', y :: S, ?_, ?_, ?_, ?_, ?_⟩
                    · rw [HLe.out]; simp
                    · rw [HJ.out]
                    · intro z hz
                      rcases List.mem_cons.1 hz with rfl | hz
                      · exact (icmp_id_neg _ _).1 (by rw [HRR.out]; have := HCn.out; simpa using this)
                      · exact HSl.out z hz
                    · exact HSW.out
                    · exact HBW.out
                  case measure => simp [intOf]
    · obtain rfl : k = T.length := by omega
      rw [List.take_length] at hO hLc ⊢
      have HFin := Lib.hid (show ReplayPost aa bl w (.returned (.slice Av (replayL T).length cv)) wo from ⟨_, T, rfl, HTO.out, hTl, own_base hO HB.out.size, HB.out.trans (hb.mono HB.out.size)⟩)
      clear hO hLl hLr
      go_wp2
      go_ret
      exact HFin.out
end Go.Proofs.Ytejafcdlkpmemaa
