/- The document's On. -/
import Derived.Test.YtejafcdlkpmemaaEK
import Derived.Test.YtejafcdlkpmemaaD
import Derived.Test.YtejafcdlkpmemaaS
namespace Go.Proofs.Ytejafcdlkpmemaa
open Go Go.RowKit
theorem own_lower {w : World} {base base' : Nat} {e : TypeId} {K n : Nat} {v : Value} {xs : List Value} (h : w.ownsRow base e K v n xs) (hb : base' ≤ base) : w.ownsRow base' e K v n xs := by
  refine ⟨h.1, ?_⟩
  rcases h.2 with h2 | ⟨g, cap, cur, h1, h2, h3⟩
  · exact .inl h2
  · exact .inr ⟨g, cap, cur, h1, Nat.le_trans hb h2, h3⟩
def OnPost' (l : List Head) (w : World) (M : Nat) (e : Ending) (w' : World) : Prop :=
  ∃ (v : Value) (L : List Stamp), e = .returned v ∧ w'.ownsRow w.heap.size 24 2 v L.length (L.flatMap stC) ∧ OnIs l L ∧ L.length ≤ M ∧ Below w.heap.size w w'
def undNm (G : List Head) (s : Stamp) : Bool := G.any (fun g => decide (g.un = s))
theorem undNm_succ {L : List Head} {j : Nat} (h : j < L.length) (s : Stamp) : undNm (L.take (j + 1)) s = (undNm (L.take j) s || decide (L[j].un = s)) := by
  unfold undNm
  rw [List.take_succ_eq_append_getElem h, List.any_append]
  simp
def OnRel1 (S : List Head) (w1 : World) (on i : Value) (wr : World) : Prop :=
  ∃ k : Nat, k ≤ S.length ∧ i = .int .i64 k ∧ wr.ownsRow w1.heap.size 90 4 on (goOn [] (S.take k)).length ((goOn [] (S.take k)).flatMap hdC) ∧ Below w1.heap.size w1 wr
def UndRel (L : List Head) (s : Stamp) (wo : World) (und i : Value) (wr : World) : Prop :=
  ∃ j : Nat, j ≤ L.length ∧ i = .int .i64 j ∧ und = .bool (undNm (L.take j) s) ∧ ∃ q, wr = wo.drewN q
def OnRel3 (G : List Head) (w3 : World) (out i : Value) (wr : World) : Prop :=
  ∃ (k : Nat) (v : Int), k ≤ G.length ∧ i = .int .i64 v ∧ v = (k : Int) - 1 ∧ wr.ownsRow w3.heap.size 24 2 out (G.length - k) ((((G.drop k).map Head.nm).reverse).flatMap stC) ∧ Below w3.heap.size w3 wr
theorem goOn_len (S : List Head) : (goOn [] S).length ≤ S.length := by
  obtain ⟨m, h1, h2⟩ := goOn_sublist [] S
  rw [h1]
  simpa using h2.length_le
theorem falls_heads {l S : List Head} (h : Falls S) (m : ∀ x, x ∈ S ↔ First l x) : OnIs l ((goOn [] S).map Head.nm).reverse := by
  refine ⟨S.reverse, ⟨?_, fun x => by rw [List.mem_reverse, m x]⟩, ?_⟩
  · rw [List.pairwise_reverse]
    exact List.pairwise_map.1 h
  · unfold onL
    rw [List.reverse_reverse]
set_option maxRecDepth 100000 in
set_option maxHeartbeats 8000000 in
theorem ron_any (l : List Head) (A : Option Addr) (n c B : Nat) (w : World) (hR : Rd w B 4 (.slice A n c) n (l.flatMap hdC)) (hB : B ≤ w.heap.size) (hn : n ≤ 100000) :
    Calls Try.prog 33 #[.slice A n c] w (OnPost' l w l.length) := by
  obtain rfl := len_of hdC 4 (fun _ => rfl) (by decide) hR.1
  have HS0 := Lib.hid (rsorted_any l A _ c B w hR hB hn)
  clear hR
  obtain ⟨i0, hi, hz0, hz1, hz2⟩ := info_parts info90
  obtain ⟨j0, gj, hy0, hy1, hy2⟩ := info_parts info24
  go_enter Try.func33, Try.ntmps33
  go_wp2_with fail
  refine HS0.out.mono ?_
  rintro e w1 ⟨sv, S, rfl, hO, hF, hM, hl, hb⟩
  obtain ⟨A1, c1, rfl, hc1, hcm⟩ := (Rd.of_own hO).form
  have HR1 := Lib.hid (Rd.of_own hO)
  have HF := Lib.hid hF
  have HM := Lib.hid hM
  have HB := Lib.hid hb
  clear hO hF hM hb HS0 hcm
  go_wp2
  go_loopw [4, 5] (fun on i wr => OnRel1 S w1 on i wr) (fun _ i _ => S.length - (intOf i).toNat)
  case atStart => exact ⟨0, Nat.zero_le _, rfl, World.ownsRow_nil _ _ _ _, Below.refl _ _⟩
  case round =>
    obtain ⟨k, hk, rfl, hO, hb⟩ := hrel
    have hGl := Nat.le_trans (goOn_len (S.take k)) (by rw [List.length_take]; exact Nat.min_le_left _ _)
    have hsn : (h : k < S.length) → goOn [] (S.take (k + 1)) = if undNm (goOn [] (S.take k)) S[k].nm then goOn [] (S.take k) else goOn [] (S.take k) ++ [S[k]] := fun h => by
      rw [List.take_succ_eq_append_getElem h, goOn_snoc]; rfl
    obtain ⟨G, hG⟩ : ∃ G, goOn [] (S.take k) = G := ⟨_, rfl⟩
    rw [hG] at hO hGl hsn
    have HG := Lib.hid hG
    clear hG
    obtain ⟨Av, cv, rfl, hLc, hcm2⟩ := (Rd.of_own hO).form
    have HO := Lib.hid hO
    clear hO hcm2
    obtain ⟨wo, rfl⟩ : ∃ wo : World, wo = wr := ⟨_, rfl⟩
    by_cases hlt : k < S.length
    · have hsn := hsn hlt
      obtain ⟨b, o, rfl, hB', hcell⟩ := rd_at hdC 4 (fun _ => rfl) (by decide) HR1.out hlt
      have hbc : ∀ j u, (hdC S[k])[j]? = some u → wo.cell? ⟨b, o + k * 4 + j, none⟩ = some u := fun j u hu => (hb.cell (p := ⟨b, o + k * 4 + j, none⟩) hB').trans (hcell j u hu)
      obtain ⟨x, hx⟩ : ∃ x, S[k] = x := ⟨_, rfl⟩
      rw [hx] at hbc hsn
      have HSN := Lib.hid hsn
      clear hx hsn
      have d0 : wo.cell? ⟨b, o + k * 4, none⟩ = some (.int .i64 x.nm.T) := hbc 0 _ rfl
      have d1 : wo.cell? ⟨b, o + k * 4 + 1, none⟩ = some (.int .i64 x.nm.R) := hbc 1 _ rfl
      have d2 : wo.cell? ⟨b, o + k * 4 + 2, none⟩ = some (.int .i64 x.un.T) := hbc 2 _ rfl
      have d3 : wo.cell? ⟨b, o + k * 4 + 3, none⟩ = some (.int .i64 x.un.R) := hbc 3 _ rfl
      clear hcell hbc
      have i1 : (0 : Int) ≤ (k : Int) := by omega
      have i2 : (k : Int) < (S.length : Int) := by omega
      go_wp2
      go_loopw [6, 7] (fun und i wr => UndRel G x.nm wo und i wr) (fun _ i _ => G.length - (intOf i).toNat)
      case atStart => exact ⟨0, Nat.zero_le _, rfl, rfl, 0, rfl⟩
      case round =>
        obtain ⟨j, hj, rfl, rfl, q, rfl⟩ := hrel
        by_cases hjl : j < G.length
        · obtain ⟨g, og, rfl, hBg, hcg⟩ := rd_at hdC 4 (fun _ => rfl) (by decide) (Rd.of_own HO.out) hjl
          have e0 : wo.cell? ⟨g, og + j * 4 + 2, none⟩ = some (.int .i64 G[j].un.T) := hcg 2 _ rfl
          have e1 : wo.cell? ⟨g, og + j * 4 + 3, none⟩ = some (.int .i64 G[j].un.R) := hcg 3 _ rfl
          have hE := eq2_iff G[j].un x.nm
          have hN := undNm_succ hjl x.nm
          obtain ⟨y, hy⟩ : ∃ y, G[j] = y := ⟨_, rfl⟩
          rw [hy] at e0 e1 hE hN
          have HN := Lib.hid hN
          have j1 : (0 : Int) ≤ (j : Int) := by omega
          have j2 : (j : Int) < (G.length : Int) := by omega
          have hq := eql24
          have hgd := gd24
          clear hcg hy hN
          rcases hh : undNm (G.take j) x.nm with _ | _
          · rw [hh] at HN
            obtain ⟨bb, hbb⟩ : ∃ bb, decide (y.un = x.nm) = bb := ⟨_, rfl⟩
            rw [hbb] at hE HN
            clear hh hbb
            go_wp2
            go_quiet (fail)
            go_wp2
            go_roundw
            case rel => exact ⟨j + 1, by omega, by go_num, by rw [HN.out]; simp, q + nq, rfl⟩
            case measure => simp [intOf]; omega
          · rw [hh] at HN
            clear hh
            go_wp2
            go_quiet (fail)
            go_wp2
            go_roundw
            case rel => exact ⟨j + 1, by omega, by go_num, by rw [HN.out]; simp, q + nq, rfl⟩
            case measure => simp [intOf]; omega
        · obtain rfl : j = G.length := by omega
          rw [List.take_length]
          have hbq : Below w1.heap.size w1 (wo.drewN q) := hb.trans (((Grows.refl wo).drewN q).below.mono hb.size)
          have hOq := Lib.hid (own_grows HO.out ((Grows.refl wo).drewN q).below)
          have q0 : (wo.drewN q).cell? ⟨b, o + k * 4, none⟩ = some (.int .i64 x.nm.T) := d0
          have q1 : (wo.drewN q).cell? ⟨b, o + k * 4 + 1, none⟩ = some (.int .i64 x.nm.R) := d1
          have q2 : (wo.drewN q).cell? ⟨b, o + k * 4 + 2, none⟩ = some (.int .i64 x.un.T) := d2
          have q3 : (wo.drewN q).cell? ⟨b, o + k * 4 + 3, none⟩ = some (.int .i64 x.un.R) := d3
          generalize wo.drewN q = W3 at *
          clear d0 d1 d2 d3 hb HO
          rcases hh : undNm G x.nm with _ | _
          · rw [hh, if_neg (by simp)] at HSN
            clear hh
            go_wp2_with (at_builtin; refine wpList_append_own _ rfl _ _ 42 rfl w1.heap.size 90 i0 _ 4 32 Try.underlying42 hi hz0 hz1 hz2 rfl (by decide) _ _ _ rfl (hOq.out.alloc _) ⟨W3.heap.size, 0, none⟩ 1 1 (hdC x) rfl rfl ?qc2 (hdC_one x) ?qc4 ?qc5 ?qc6 ?_)
            case qc2 => exact cells_new W3 (hdC x) 90
            case qc4 => unfold maxLen; omega
            case qc5 => omega
            case qc6 => have := hbq.size; simp; omega
            intro v' W4 hown hgrow _
            obtain ⟨g, cap, rfl, hgB, hgc, hgm, ho4⟩ := own_snoc hown
            have hb4 : Below w1.heap.size w1 W4 := (hbq.alloc hbq.size _).grown hgrow (by have := hbq.size; simp; omega) (fun j hj => by
              rcases (hOq.out).lt j hj with ⟨h1, _⟩
              exact h1)
            have HO4 := Lib.hid (show W4.ownsRow w1.heap.size 90 4 (.slice (some ⟨g, 0, none⟩) (G.length + 1) cap) (goOn [] (S.take (k + 1))).length ((goOn [] (S.take (k + 1))).flatMap hdC) from by rw [HSN.out]; simpa using ho4)
            clear hown hgrow ho4 hgm
            go_wp2
            go_roundw
            case rel => exact ⟨k + 1, by omega, by go_num, HO4.out, hb4⟩
            case measure => simp [intOf]; omega
          · rw [hh, if_pos rfl] at HSN
            clear hh
            go_wp2
            go_roundw
            case rel => exact ⟨k + 1, by omega, by go_num, by rw [HSN.out]; exact hOq.out, hbq⟩
            case measure => simp [intOf]; omega
    · have hke : k = S.length := by omega
      subst hke
      have HGe := Lib.hid (show goOn [] S = G by have := HG.out; rwa [List.take_length] at this)
      have HRG := Lib.hid (Rd.of_own HO.out)
      clear HG HO hsn
      go_wp2
      go_loopw [8, 9] (fun out i wr => OnRel3 G wo out i wr) (fun _ i _ => (intOf i + 1).toNat)
      case atStart => exact ⟨G.length, _, Nat.le_refl _, rfl, by go_num, by simpa using World.ownsRow_nil _ _ _ _, Below.refl _ _⟩
      case round =>
        obtain ⟨k, v, hk, rfl, hv, hO, hb3⟩ := hrel
        obtain ⟨Aw, cw, rfl, hwc, hcm3⟩ := (Rd.of_own hO).form
        have HO := Lib.hid hO
        clear hO hcm3
        rcases k with _ | j
        · have hv0 : v < 0 := by omega
          clear hv
          go_wp2
          go_ret
          have h1 := HO.out
          rw [List.drop_zero, Nat.sub_zero] at h1
          refine ⟨_, ((goOn [] S).map Head.nm).reverse, rfl, ?_, falls_heads HF.out HM.out, by have := goOn_len S; simp; omega, HB.out.trans ((hb.mono HB.out.size).trans (hb3.mono (Nat.le_trans HB.out.size hb.size)))⟩
          rw [HGe.out]
          have := own_lower h1 (Nat.le_trans HB.out.size hb.size)
          simpa using this
        · obtain rfl : v = (j : Int) := by omega
          clear hv
          have hj : j < G.length := by omega
          obtain ⟨g, og, rfl, hBg, hcg⟩ := rd_at hdC 4 (fun _ => rfl) (by decide) HRG.out hj
          have hd : (((G.drop j).map Head.nm).reverse) = (((G.drop (j + 1)).map Head.nm).reverse) ++ [G[j].nm] := by
            rw [List.drop_eq_getElem_cons hj, List.map_cons, List.reverse_cons]
          have e0 : wr.cell? ⟨g, og + j * 4, none⟩ = some (.int .i64 G[j].nm.T) := (hb3.cell (p := ⟨g, og + j * 4, none⟩) hBg).trans (hcg 0 _ rfl)
          have e1 : wr.cell? ⟨g, og + j * 4 + 1, none⟩ = some (.int .i64 G[j].nm.R) := (hb3.cell (p := ⟨g, og + j * 4 + 1, none⟩) hBg).trans (hcg 1 _ rfl)
          obtain ⟨y, hy⟩ : ∃ y, G[j] = y := ⟨_, rfl⟩
          rw [hy] at e0 e1 hd
          have HD := Lib.hid hd
          have hlen : G.length - (j + 1) + 1 = G.length - j := by omega
          have HL := Lib.hid hlen
          obtain ⟨m, hm⟩ : ∃ m, G.length - (j + 1) = m := ⟨_, rfl⟩
          rw [hm] at HO HL hwc ⊢
          have hml : m ≤ 100000 := by omega
          have i1 : (0 : Int) ≤ (j : Int) := by omega
          have i2 : (j : Int) < (G.length : Int) := by omega
          clear hcg hy hd hlen hm
          go_wp2_with (at_builtin; refine wpList_append_own _ rfl _ _ 32 rfl wo.heap.size 24 j0 _ 2 16 Try.underlying32 gj hy0 hy1 hy2 rfl (by decide) _ _ _ rfl (HO.out.alloc _) ⟨wr.heap.size, 0, none⟩ 1 1 (stC y.nm) rfl rfl ?qc2 (stC_one y.nm) ?qc4 ?qc5 ?qc6 ?_)
          case qc2 => exact cells_new wr (stC y.nm) 24
          case qc4 => unfold maxLen; omega
          case qc5 => omega
          case qc6 => have := hb3.size; simp; omega
          intro v' W4 hown hgrow _
          have hb4 : Below wo.heap.size wo W4 := (hb3.alloc hb3.size _).grown hgrow (by have := hb3.size; simp; omega) (fun j hj => by
            rcases (HO.out).lt j hj with ⟨h1, _⟩
            exact h1)
          have HO4 := Lib.hid (show W4.ownsRow wo.heap.size 24 2 v' (G.length - j) ((((G.drop j).map Head.nm).reverse).flatMap stC) from by rw [HD.out, ← HL.out]; simpa using hown)
          clear hown hgrow
          go_wp2
          go_roundw
          case rel => exact ⟨j, _, by omega, rfl, by go_num, HO4.out, hb4⟩
          case measure => simp [intOf]
end Go.Proofs.Ytejafcdlkpmemaa
