/- The law WeaveBehind, walked. -/
import Derived.Test.YtphapjbfaomblaaDoorHC
namespace Go.Proofs.YtphapjbfaomblaaDoor
open Go Go.RowKit
theorem ids_nz {F : List El} {O : List Nd} (h : Ord F O) : zeroI ∉ ids O := by
  intro hm
  obtain ⟨e, he, h1⟩ := List.mem_map.1 hm
  obtain ⟨n, hn, rfl⟩ := List.mem_map.1 he
  exact ((h.2 n).1 hn).1.2 h1
theorem behind_first (L : List Pick) {N : Nat} (hN : N ≤ 15) {O : List Nd} (hO : Ord (flatAt L N) O) {e : El} (he : e ∈ flatAt L N) {x y : Int} (hx : AtIs (ids O) e.af x) (hy : AtIs (ids O) e.id y) :
    (e.af ≠ zeroI → 0 ≤ x) ∧ -1 ≤ x ∧ x < y ∧ y < O.length ∧ ∀ (k : Nat) (hk : k < (ids O).length), x < (k : Int) → (k : Int) < y → e.id.Lt ((ids O)[k]) := by
  obtain ⟨q, hq, hn⟩ := grown_node L hN hO he
  obtain ⟨ky, hky, rfl, hOy⟩ := at_node hO hn hy
  have hbt : ∀ (k : Nat) (hk : k < O.length), PLt Id.Lt q (O[k]).1 → k < ky → e.id.Lt (O[k]).2.id := fun k hk h1 h2 => by
    have h3 := List.pairwise_iff_getElem.1 hO.1 k ky hk hky h2
    rw [hOy] at h3
    exact between_newer idSTO (counts_names _) (grown_inc L hN) ((hO.2 _).1 (List.getElem_mem hk)) h1 h3
  rcases path_snoc hq with ⟨hq0, hz⟩ | ⟨q', e', hq', h1, h2, h3⟩
  · subst hq0
    have hx1 : x = -1 := by
      rcases hx with ⟨k, hk, rfl, h1, _⟩ | ⟨h1, _⟩
      · rw [hz] at h1
        exact absurd (h1 ▸ List.getElem_mem hk) (ids_nz hO)
      · exact h1
    subst hx1
    refine ⟨fun h => absurd hz h, by omega, by omega, by omega, fun k hk _ h2 => ?_⟩
    have hk' : k < O.length := by rw [← ids_len]; exact hk
    rw [ids_get]
    refine hbt k hk' ?_ (by omega)
    obtain ⟨_, q2, _, h5⟩ := (hO.2 _).1 (List.getElem_mem hk')
    rw [h5]
    cases q2 <;> exact trivial
  · have hn' : (q, e') ∈ O := (hO.2 _).2 ⟨h2, q', h1, by rw [hq', h3]⟩
    rw [← h3] at hx
    obtain ⟨kx, hkx, rfl, hOx⟩ := at_node hO hn' hx
    have hlt : kx < ky := by
      refine order_idx idSTO hO.1 hkx hky ?_
      rw [hOx, hOy]
      exact plt_more q e.id []
    refine ⟨fun _ => by omega, by omega, by omega, by omega, fun k hk h6 h7 => ?_⟩
    have hk' : k < O.length := by rw [← ids_len]; exact hk
    rw [ids_get]
    refine hbt k hk' ?_ (by omega)
    have h8 := List.pairwise_iff_getElem.1 hO.1 kx k hkx hk' (by omega)
    rw [hOx] at h8
    exact h8
theorem gE_mem (i : Nat) (p : Pick) : ∀ (m k : Nat) (af : Id) (j : Nat), j < m → ∃ e ∈ gE i p af k m, e.id = gId i p (k + j) ∧ e.af = if j = 0 then af else gId i p (k + j - 1)
  | 0, _, _, _, h => by omega
  | m + 1, k, af, 0, _ => ⟨_, List.mem_cons_self, rfl, rfl⟩
  | m + 1, k, af, j + 1, h => by
    obtain ⟨e, he, h1, h2⟩ := gE_mem i p m (k + 1) (gId i p k) j (by omega)
    refine ⟨e, List.mem_cons_of_mem _ he, by rw [h1]; congr 1; omega, ?_⟩
    rw [h2, if_neg (Nat.succ_ne_zero j)]
    by_cases hj : j = 0
    · subst hj; rw [if_pos rfl]; congr 1
    · rw [if_neg hj]; congr 1; omega
theorem flatAt_mem (L : List Pick) (N : Nat) {k j : Nat} (hk : k < N) (hj : j < gN (L.getD k zeroP)) : ∃ e ∈ flatAt L N, e.id = gId k (L.getD k zeroP) j ∧ e.af = if j = 0 then (runAt L k).af else gId k (L.getD k zeroP) (j - 1) := by
  induction N with
  | zero => omega
  | succ N ih =>
    rw [flatAt_succ]
    rcases Nat.lt_or_eq_of_le (Nat.le_of_lt_succ hk) with h | h
    · obtain ⟨e, he, h1⟩ := ih h
      exact ⟨e, List.mem_append_left _ he, h1⟩
    · subst h
      obtain ⟨e, he, h1, h2⟩ := gE_mem k (L.getD k zeroP) (gN (L.getD k zeroP)) 0 (runAt L k).af j hj
      rw [Nat.zero_add] at h1 h2
      exact ⟨e, List.mem_append_right _ he, h1, h2⟩
theorem cmp_pos {a b : Id} (h : b.Lt a) : ¬ a.cmp b ≤ 0 := by
  have h1 : ¬ a.cmp b < 0 := fun h2 => STO.asymm idSTO h ((icmp_id_neg _ _).1 h2)
  intro h2
  have h3 : a.cmp b = 0 := by omega
  rw [icmp_id_zero] at h3
  rw [h3] at h
  exact idSTO.irrefl _ h
def BeRel (N : Nat) (wB : World) (i : Value) (wr : World) : Prop := ∃ k : Nat, k ≤ N ∧ i = .int .i64 k ∧ Below wB.heap.size wB wr
def BtRel (x y : Int) (wB : World) (i : Value) (wr : World) : Prop := ∃ m : Nat, x < (m : Int) ∧ (m : Int) ≤ y ∧ i = .int .i64 m ∧ Below wB.heap.size wB wr
def StRel (n : Nat) (wB : World) (i : Value) (wr : World) : Prop := ∃ m : Nat, 1 ≤ m ∧ m ≤ n ∧ i = .int .i64 m ∧ Below wB.heap.size wB wr
set_option maxRecDepth 100000 in
set_option maxHeartbeats 8000000 in
theorem behind_walk (L : List Pick) (A : Option Addr) (n c : Nat) (w : World) (hR : Rd w w.heap.size 3 (.slice A n c) n (L.flatMap pickC)) (hT : Tabs w) :
    Calls Tryd.prog 5 #[.slice A n c] w fun e w' => e = .returned (.bool true) ∧ Below w.heap.size w w' := by
  have HR := Lib.hid (fun W (hW : Below w.heap.size w W) => hR.below' hW (Nat.le_refl _))
  have HT := Lib.hid (fun W (hW : Below w.heap.size w W) => hT.below hW)
  clear hR hT
  go_enter Tryd.func5, Tryd.ntmps5
  go_wp2_with fail
  refine (awake_any w (HT.out w (Below.refl _ _))).mono ?_
  rintro e w1 ⟨rfl, hb1⟩
  have HB1 := Lib.hid hb1
  clear hb1
  go_wp2_with fail
  refine (grown_any L A n c w.heap.size w1 (HR.out w1 HB1.out) HB1.out.size).mono ?_
  rintro e w2 ⟨v, rfl, hO, hb2⟩
  obtain ⟨N, hN⟩ : ∃ N, min L.length 15 = N := ⟨_, rfl⟩
  have hN15 : N ≤ 15 := by omega
  rw [hN] at hO
  obtain ⟨Av, cv, rfl, _, _⟩ := (Rd.of_own hO).form
  have HV := Lib.hid (fun W (hW : Below w2.heap.size w2 W) => (Rd.of_own hO).below' hW (Nat.le_refl _))
  have HB2 := Lib.hid (HB1.out.trans (hb2.mono HB1.out.size))
  have hf1 : (flat (runsAt L N)).length ≤ 100000 := by have := flatAt_le L N; unfold flatAt at this; omega
  have HO1 := Lib.hid (order_any (runsAt L N) Av N cv w2.heap.size w2 (HV.out w2 (Below.refl _ _)) (Nat.le_refl _) (HT.out w2 HB2.out) hf1 (fun r hr => Nat.le_trans (runsAt_tx L N r hr) (by omega)))
  clear hN hO hb2 HR hf1
  go_wp2_with fail
  refine HO1.out.mono ?_
  rintro e w4 ⟨O, v4, hO4, rfl, hv4, _, hb4⟩
  have HO4 := Lib.hid (show Ord (flatAt L N) O from hO4)
  obtain ⟨A4, c4, rfl, _, _⟩ := (Rd.of_own hv4).form
  have hlen := grown_len L hN15 HO4.out
  have hle := flatAt_le L N
  have HV4 := Lib.hid (fun W (hW : Below w4.heap.size w4 W) => (show Rd W w4.heap.size 3 (.slice A4 (ids O).length c4) (ids O).length ((ids O).flatMap idC) from by rw [ids_len]; exact (Rd.of_own hv4).below' hW (Nat.le_refl _)))
  obtain ⟨F, hF⟩ : ∃ F, O.length = F := ⟨_, rfl⟩
  have hF60 : F ≤ 60 := by omega
  have hiF : (ids O).length = F := by rw [ids_len]; exact hF
  have HAT := Lib.hid (fun W (hW : Below w4.heap.size w4 W) (z : Id) => (show Calls Tryd.prog 14 #[.slice A4 F c4, idV z] W (fun e w' => (∃ r, e = .returned (.int .i64 r) ∧ AtIs (ids O) z r) ∧ Grows W w') from by rw [← hiF]; exact at_any (ids O) z A4 _ c4 w4.heap.size W (HV4.out W hW) hW.size))
  have HRN := Lib.hid (fun W (hW : Below w4.heap.size w4 W) => (show Rd W w2.heap.size 7 (.slice Av (runsAt L N).length cv) (runsAt L N).length ((runsAt L N).flatMap rnC) from by rw [runsAt_len]; exact HV.out W (hb4.trans (hW.mono hb4.size))))
  have HB4 := Lib.hid (HB2.out.trans (hb4.mono HB2.out.size))
  have h24 := hb4.size
  have HIF := Lib.hid hiF
  rw [hF]
  rw [hiF] at HV4
  clear hO4 hv4 hb4 hlen hle HO1 hF hiF
  go_wp2
  go_loopw [7] (fun i wr => BeRel N w4 i wr) (fun i _ => N - (intOf i).toNat)
  case atStart => exact ⟨0, Nat.zero_le _, rfl, Below.refl _ _⟩
  case round =>
    obtain ⟨k, hk, rfl, hb⟩ := hrel
    obtain ⟨wo, rfl⟩ : ∃ wo : World, wo = wr := ⟨_, rfl⟩
    have HBo := Lib.hid hb
    clear hb
    by_cases hlt : k < N
    · obtain ⟨b, o, rfl, hBb, hcell⟩ := rd_at rnC 7 (fun _ => rfl) (by decide) (HRN.out wo HBo.out) (show k < (runsAt L N).length by rw [runsAt_len]; exact hlt)
      rw [runsAt_get] at hcell
      have hpl : b < wo.heap.size := Nat.lt_of_lt_of_le hBb (Nat.le_trans h24 HBo.out.size)
      have hel : (runAt L k).el = gId k (L.getD k zeroP) 0 := rfl
      have htx := runAt_tx L k
      obtain ⟨p, hp⟩ : ∃ p, L.getD k zeroP = p := ⟨_, rfl⟩
      rw [hp] at hel htx
      have hmem := fun j (hj : j < gN (L.getD k zeroP)) => flatAt_mem L N hlt hj
      rw [hp] at hmem
      obtain ⟨r, hr⟩ : ∃ r, runAt L k = r := ⟨_, rfl⟩
      rw [hr] at hcell hel htx hmem
      obtain ⟨nn, hnn⟩ : ∃ nn, gN p = nn := ⟨_, rfl⟩
      rw [hnn] at htx hmem
      have hn1 : 1 ≤ nn ∧ nn ≤ 4 := by have := gN_le p; have h0 : 1 ≤ gN p := by unfold gN; omega
                                       omega
      have hidm : ∀ m : Nat, m < 8 → idV (gId k p m) = .agg #[.int .i64 r.el.s.T, .int .i64 r.el.s.R, .int .i64 (m : Int)] := fun m hm => by
        rw [hel]
        unfold idV gId
        dsimp only
        rw [show m % 8 = m by omega]
      have hid0 : idV r.el = .agg #[.int .i64 r.el.s.T, .int .i64 r.el.s.R, .int .i64 r.el.I] := rfl
      have HC := Lib.hid (fun W (hW : Below wo.heap.size wo W) => (show (W.cell? ⟨b, o + k * 7, none⟩ = some (.int .i64 r.af.s.T) ∧ W.cell? ⟨b, o + k * 7 + 1, none⟩ = some (.int .i64 r.af.s.R) ∧ W.cell? ⟨b, o + k * 7 + 2, none⟩ = some (.int .i64 r.af.I)) ∧ (W.cell? ⟨b, o + k * 7 + 3, none⟩ = some (.int .i64 r.el.s.T) ∧ W.cell? ⟨b, o + k * 7 + 3 + 1, none⟩ = some (.int .i64 r.el.s.R) ∧ W.cell? ⟨b, o + k * 7 + 3 + 2, none⟩ = some (.int .i64 r.el.I)) ∧ W.cell? ⟨b, o + k * 7 + 6, none⟩ = some (.string r.tx) from
        ⟨⟨(hW.cell (p := ⟨b, o + k * 7, none⟩) hpl).trans (hcell 0 _ rfl), (hW.cell (p := ⟨b, o + k * 7 + 1, none⟩) hpl).trans (hcell 1 _ rfl), (hW.cell (p := ⟨b, o + k * 7 + 2, none⟩) hpl).trans (hcell 2 _ rfl)⟩, ⟨(hW.cell (p := ⟨b, o + k * 7 + 3, none⟩) hpl).trans (hcell 3 _ rfl), (hW.cell (p := ⟨b, o + k * 7 + 3 + 1, none⟩) hpl).trans (hcell 4 _ rfl), (hW.cell (p := ⟨b, o + k * 7 + 3 + 2, none⟩) hpl).trans (hcell 5 _ rfl)⟩, (hW.cell (p := ⟨b, o + k * 7 + 6, none⟩) hpl).trans (hcell 6 _ rfl)⟩))
      have i1 : (0 : Int) ≤ (k : Int) := by omega
      have i2 : (k : Int) < (N : Int) := by omega
      have HEL := Lib.hid hel
      have HTX := Lib.hid htx
      have HMEM := Lib.hid hmem
      have HIDM := Lib.hid hidm
      have HB0 := Lib.hid (fun W (hW : Below wo.heap.size wo W) => HBo.out.trans (hW.mono HBo.out.size))
      have HAT1 := Lib.hid (fun W (hW : Below wo.heap.size wo W) => HAT.out W (HBo.out.trans (hW.mono HBo.out.size)) r.af)
      have HAT2 := Lib.hid (fun W (hW : Below wo.heap.size wo W) => HAT.out W (HBo.out.trans (hW.mono HBo.out.size)) r.el)
      unfold idV at HAT1 HAT2
      have k1 : Below wo.heap.size wo wo.drew := (Below.refl _ wo).drew
      clear hcell hel htx hmem hidm hp hr hnn hid0
      go_wp2
      go_region_held3 (fun W => (W.cell? ⟨b, o + k * 7, none⟩ = some (.int .i64 r.af.s.T) ∧ W.cell? ⟨b, o + k * 7 + 1, none⟩ = some (.int .i64 r.af.s.R) ∧ W.cell? ⟨b, o + k * 7 + 2, none⟩ = some (.int .i64 r.af.I)) ∧ (W.cell? ⟨b, o + k * 7 + 3, none⟩ = some (.int .i64 r.el.s.T) ∧ W.cell? ⟨b, o + k * 7 + 3 + 1, none⟩ = some (.int .i64 r.el.s.R) ∧ W.cell? ⟨b, o + k * 7 + 3 + 2, none⟩ = some (.int .i64 r.el.I)) ∧ W.cell? ⟨b, o + k * 7 + 6, none⟩ = some (.string r.tx))
        (first | exact HC.out _ (by assumption) | go_keep)
        (first
          | (go_at_call 14; refine (HAT1.out _ k1).mono ?_; rintro e w6 ⟨⟨x, rfl, hx⟩, hg6⟩; have k2 := k1.trans (hg6.below.mono k1.size); clear hg6 HAT1)
          | (go_at_call 14; refine (HAT2.out _ k2).mono ?_; rintro e w7 ⟨⟨y, rfl, hy⟩, hg7⟩; have k3 := k2.trans (hg7.below.mono k2.size); clear hg7 HAT2))
      obtain ⟨e0, he0, hid0, haf0⟩ := HMEM.out 0 (by omega)
      rw [if_pos rfl] at haf0
      obtain ⟨hp0, hx1, hxy, hyF, hbt⟩ := behind_first L hN15 HO4.out he0 (haf0.symm ▸ hx) (by rw [hid0, ← HEL.out]; exact hy)
      rw [haf0] at hp0
      rw [hid0, ← HEL.out] at hbt
      have HBT := Lib.hid hbt
      have hsplit : decide (r.af = zeroI) = true ∨ (decide (r.af = zeroI) = false ∧ ¬ x < 0) := by
        by_cases h : r.af = zeroI
        · exact .inl (decide_eq_true h)
        · exact .inr ⟨decide_eq_false h, by have := hp0 h; omega⟩
      have hE : eq3 r.af.s.T r.af.s.R r.af.I 0 0 0 = decide (r.af = zeroI) := eq3_iff r.af zeroI
      have hyx : ¬ y ≤ x := by omega
      obtain ⟨⟨c0, c1, c2⟩, _, _⟩ := HC.out w7 k3
      have HK3 := Lib.hid k3
      have hyF2 : y < (F : Int) := by have := HIF.out; rw [ids_len] at this; omega
      have hxF : x < 100 := by omega
      have hyF' : y < 100 := by omega
      have w1 : IntKind.i64.wrap (x + 1) = x + 1 := IntWalk.i64_in _ (by omega)
      clear he0 hid0 haf0 hp0 hbt k1 k2 k3 hx hy
      rcases hsplit with hq0 | ⟨hq0, hxn⟩
      all_goals
        rw [hq0] at hE
        have hq := neq26
        have hgd := gd26
        go_wp2
        clear hq hgd hE hq0 c0 c1 c2
        go_loopw [10] (fun i wr => BtRel x y w7 i wr) (fun i _ => (y - intOf i).toNat)
        case atStart => exact ⟨(x + 1).toNat, by omega, by omega, by congr 1; omega, Below.refl _ _⟩
        case round =>
          obtain ⟨m, hxm, hmy, rfl, hb⟩ := hrel
          obtain ⟨wq, rfl⟩ : ∃ wq : World, wq = wr := ⟨_, rfl⟩
          have HBq := Lib.hid (HK3.out.trans (hb.mono HK3.out.size))
          have HBp := Lib.hid hb
          clear hb
          by_cases hlm : (m : Int) < y
          · have hmF : m < (ids O).length := by rw [HIF.out]; omega
            obtain ⟨b2, o2, hA4, hB2, hcell2⟩ := rd_at idC 3 (fun _ => rfl) (by decide) (show Rd wq w4.heap.size 3 (.slice A4 (ids O).length c4) (ids O).length ((ids O).flatMap idC) from by rw [HIF.out]; exact HV4.out wq (HB0.out wq HBq.out)) hmF
            subst hA4
            have hgt := HBT.out m hmF hxm hlm
            obtain ⟨z, hz⟩ : ∃ z, (ids O)[m] = z := ⟨_, rfl⟩
            rw [hz] at hcell2 hgt
            have hps := cmp_pos hgt
            have hpl2 : b2 < wq.heap.size := Nat.lt_of_lt_of_le hB2 (HB0.out wq HBq.out).size
            have HC2 := Lib.hid (fun W (hW : Below wq.heap.size wq W) => (show (W.cell? ⟨b2, o2 + m * 3, none⟩ = some (.int .i64 z.s.T) ∧ W.cell? ⟨b2, o2 + m * 3 + 1, none⟩ = some (.int .i64 z.s.R) ∧ W.cell? ⟨b2, o2 + m * 3 + 2, none⟩ = some (.int .i64 z.I)) ∧ (W.cell? ⟨b, o + k * 7 + 3, none⟩ = some (.int .i64 r.el.s.T) ∧ W.cell? ⟨b, o + k * 7 + 3 + 1, none⟩ = some (.int .i64 r.el.s.R) ∧ W.cell? ⟨b, o + k * 7 + 3 + 2, none⟩ = some (.int .i64 r.el.I)) from
              ⟨⟨(hW.cell (p := ⟨b2, o2 + m * 3, none⟩) hpl2).trans (hcell2 0 _ rfl), (hW.cell (p := ⟨b2, o2 + m * 3 + 1, none⟩) hpl2).trans (hcell2 1 _ rfl), (hW.cell (p := ⟨b2, o2 + m * 3 + 2, none⟩) hpl2).trans (hcell2 2 _ rfl)⟩, (HC.out W (HBq.out.trans (hW.mono HBq.out.size))).2.1⟩))
            have HCM := Lib.hid (fun W => rcmpId_any z r.el W)
            unfold idV at HCM
            obtain ⟨cc, hcc⟩ : ∃ cc, z.cmp r.el = cc := ⟨_, rfl⟩
            rw [hcc] at hps HCM
            have j1 : (0 : Int) ≤ (m : Int) := by omega
            have j2 : (m : Int) < (F : Int) := by omega
            have k1 : Below wq.heap.size wq wq.drew := (Below.refl _ wq).drew
            clear hcell2 hgt hz hcc
            go_wp2
            go_region_held3 (fun W => (W.cell? ⟨b2, o2 + m * 3, none⟩ = some (.int .i64 z.s.T) ∧ W.cell? ⟨b2, o2 + m * 3 + 1, none⟩ = some (.int .i64 z.s.R) ∧ W.cell? ⟨b2, o2 + m * 3 + 2, none⟩ = some (.int .i64 z.I)) ∧ (W.cell? ⟨b, o + k * 7 + 3, none⟩ = some (.int .i64 r.el.s.T) ∧ W.cell? ⟨b, o + k * 7 + 3 + 1, none⟩ = some (.int .i64 r.el.s.R) ∧ W.cell? ⟨b, o + k * 7 + 3 + 2, none⟩ = some (.int .i64 r.el.I)))
              (first | exact HC2.out _ (by assumption) | go_keep)
              (first | (go_at_call 17; refine (HCM.out _).mono ?_; rintro e w9 ⟨rfl, hg9⟩; have k2 := k1.trans (hg9.below.mono k1.size); clear hg9))
            have HB9 := Lib.hid (HBp.out.trans (k2.mono HBp.out.size))
            have j3 : IntKind.i64.wrap ((m : Int) + 1) = ((m + 1 : Nat) : Int) := by rw [IntWalk.i64_in _ (by omega)]; omega
            clear k1 k2
            go_wp2
            go_roundw
            case rel => exact ⟨m + 1, by omega, by omega, by go_num, HB9.out⟩
            case measure => simp [intOf]; omega
          · obtain ⟨_, ⟨c3, c4', c5⟩, c6⟩ := HC.out wq HBq.out
            have htx := HTX.out
            clear hmy hxm
            go_wp2
            go_loopw [12] (fun i wr => StRel nn wq i wr) (fun i _ => nn - (intOf i).toNat)
            case atStart => exact ⟨1, Nat.le_refl _, hn1.1, rfl, Below.refl _ _⟩
            case round =>
              obtain ⟨m2, hm1, hmn, rfl, hb⟩ := hrel
              obtain ⟨wt, rfl⟩ : ∃ wt : World, wt = wr := ⟨_, rfl⟩
              have HBt := Lib.hid hb
              have HBw := Lib.hid (HBq.out.trans (hb.mono HBq.out.size))
              clear hb
              obtain ⟨_, ⟨f3, f4, _⟩, _⟩ := HC.out wt HBw.out
              by_cases hl2 : m2 < nn
              · obtain ⟨e1, he1, hid1, haf1⟩ := HMEM.out m2 hl2
                rw [if_neg (by omega)] at haf1
                have HA1 := Lib.hid (HAT.out wt (HB0.out wt HBw.out) (gId k p m2))
                have HA2 := Lib.hid (fun W (hW : Below wt.heap.size wt W) => HAT.out W (HB0.out W (HBw.out.trans (hW.mono HBw.out.size))) (gId k p (m2 - 1)))
                rw [HIDM.out m2 (by omega)] at HA1
                rw [HIDM.out (m2 - 1) (by omega)] at HA2
                have j4 : IntKind.i64.wrap ((m2 : Int) - 1) = ((m2 - 1 : Nat) : Int) := by rw [IntWalk.i64_in _ (by omega)]; omega
                have HCt := Lib.hid (fun W (hW : Below wt.heap.size wt W) => (HC.out W (HBw.out.trans (hW.mono HBw.out.size))).2.1)
                have HBF := Lib.hid (fun (x y : Int) (hx : AtIs (ids O) (gId k p (m2 - 1)) x) (hy : AtIs (ids O) (gId k p m2) y) => (behind_first L hN15 HO4.out he1 (x := x) (y := y) (by rw [haf1]; exact hx) (by rw [hid1]; exact hy)).2.2.1)
                clear he1 hid1 haf1
                go_wp2_with fail
                refine HA1.out.mono ?_
                rintro e w10 ⟨⟨z1, rfl, hz1⟩, hg10⟩
                have hk10 := hg10.below
                obtain ⟨g3, g4, _⟩ := HCt.out w10 hk10
                have HZ1 := Lib.hid hz1
                have HK10 := Lib.hid hk10
                clear hz1 hg10 hk10 f3 f4
                go_wp2_with fail
                refine (HA2.out w10 HK10.out).mono ?_
                rintro e w11 ⟨⟨z2, rfl, hz2⟩, hg11⟩
                have hzz := HBF.out z2 z1 hz2 HZ1.out
                have hnz : ¬ z1 ≤ z2 := by omega
                have HB11 := Lib.hid (HBt.out.trans ((HK10.out.trans (hg11.below.mono HK10.out.size)).mono HBt.out.size))
                clear hz2 hg11 hzz g3 g4
                go_wp2
                go_roundw
                case rel => exact ⟨m2 + 1, by omega, by omega, by go_num, HB11.out⟩
                case measure => simp [intOf]; omega
              · clear f3 f4
                go_wp2
                go_roundw
                case rel => exact ⟨k + 1, by omega, by go_num, HB0.out wt HBw.out⟩
                case measure => simp [intOf]; omega
    · obtain rfl : k = N := by omega
      go_wp2
      go_ret
      exact ⟨rfl, HB4.out.trans (HBo.out.mono HB4.out.size)⟩
end Go.Proofs.YtphapjbfaomblaaDoor
