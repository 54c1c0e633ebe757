/- The law WeaveKeeps, walked. -/
import Derived.Test.YtphapjbfaomblaaDoorGN
import Derived.Test.YtphapjbfaomblaaDoorGO
import Derived.Test.YtphapjbfaomblaaDoorX3
namespace Go.Proofs.YtphapjbfaomblaaDoor
open Go Go.RowKit
theorem counts_more {F G : List El} {e : El} (h : Counts F e) : Counts (F ++ G) e := by
  refine ⟨?_, h.2⟩
  have := h.1
  unfold FirstK at *
  rw [List.find?_append, this]
  rfl
def ids (O : List Nd) : List Id := (els O).map El.id
theorem ids_len (O : List Nd) : (ids O).length = O.length := by simp [ids, els]
theorem ids_get (O : List Nd) {k : Nat} (h : k < (ids O).length) : (ids O)[k] = (O[k]'(by rw [← ids_len]; exact h)).2.id := by simp [ids, els]
abbrev Ord (F : List El) (O : List Nd) : Prop := OrderOf Id.Lt El.id El.af zeroI (Counts F) O
theorem at_node {F : List El} {O : List Nd} (h : Ord F O) {n : Nd} (hn : n ∈ O) {r : Int} (hr : AtIs (ids O) n.2.id r) : ∃ (k : Nat) (hk : k < O.length), r = (k : Int) ∧ O[k] = n := by
  rcases hr with ⟨k, hk, rfl, he, _⟩ | ⟨_, hno⟩
  · have hk' : k < O.length := by rw [← ids_len]; exact hk
    refine ⟨k, hk', rfl, ?_⟩
    rw [ids_get] at he
    exact node_unique (counts_names F) ((h.2 _).1 (List.getElem_mem hk')) ((h.2 _).1 hn) he
  · exact absurd (List.mem_map.2 ⟨n.2, List.mem_map.2 ⟨n, hn, rfl⟩, rfl⟩) hno
def LastIs (O1 O2 : List Nd) (i : Nat) (z : Int) : Prop := (i = 0 ∧ z = -1) ∨ ∃ (k : Nat) (hk : k < O2.length) (hi : 0 < i ∧ i ≤ O1.length), z = (k : Int) ∧ O2[k] = O1[i - 1]'(by omega)
theorem keeps_step {F G : List El} {O1 O2 : List Nd} (h1 : Ord F O1) (h2 : Ord (F ++ G) O2) {i : Nat} (hi : i < O1.length) {z r : Int} (hz : LastIs O1 O2 i z) (hr : AtIs (ids O2) O1[i].2.id r) : z < r ∧ LastIs O1 O2 (i + 1) r := by
  have hn : O1[i] ∈ O2 := (h2.2 _).2 (node_mono (fun e he => counts_more he) ((h1.2 _).1 (List.getElem_mem hi)))
  obtain ⟨k, hk, rfl, he⟩ := at_node h2 hn hr
  refine ⟨?_, .inr ⟨k, hk, by omega, rfl, by rw [he]; rfl⟩⟩
  rcases hz with ⟨_, rfl⟩ | ⟨k', hk', hi', rfl, he'⟩
  · omega
  · have hlt := List.pairwise_iff_getElem.1 h1.1 (i - 1) i (by omega) hi (by omega)
    rw [← he, ← he'] at hlt
    have := order_idx idSTO h2.1 hk' hk hlt
    omega
theorem flat_size : ∀ (R : List Rn) (n : Nat), (∀ r ∈ R, r.tx.size ≤ n) → (flat R).length ≤ R.length * n
  | [], _, _ => by simp [flat]
  | r :: R, n, h => by
    have h1 := flat_size R n (fun x hx => h x (List.mem_cons_of_mem _ hx))
    have h2 := h r (by simp)
    have h3 : flat (r :: R) = flatOf r.af r.el (pcs r.tx.data.toList) ++ flat R := by simp [flat]
    have h4 := pcs_le r.tx.data.toList
    have h5 : r.tx.data.toList.length = r.tx.size := (Lib.size_eq r.tx).symm
    rw [h3, List.length_append, flatOf_len, List.length_cons, Nat.add_mul]
    omega
def KeRel (O1 O2 : List Nd) (w4 : World) (last i : Value) (wr : World) : Prop := ∃ (k : Nat) (z : Int), k ≤ O1.length ∧ i = .int .i64 k ∧ last = .int .i64 z ∧ LastIs O1 O2 k z ∧ Below w4.heap.size w4 wr
def rnV (r : Rn) : Value := .agg #[.int .i64 r.af.s.T, .int .i64 r.af.s.R, .int .i64 r.af.I, .int .i64 r.el.s.T, .int .i64 r.el.s.R, .int .i64 r.el.I, .string r.tx]
theorem info28 : (Tryd.prog.info? 28).map (fun i => (i.zero, i.size, i.bytes)) = some (some (.agg #[.int .i64 0, .int .i64 0, .int .i64 0, .int .i64 0, .int .i64 0, .int .i64 0, .string ⟨#[]⟩]), 7, 64) := by kernel_rfl
set_option maxRecDepth 100000 in
set_option maxHeartbeats 8000000 in
theorem keeps_walk (R : List Rn) (more : Rn) (A : Option Addr) (n c : Nat) (w : World) (hR : Rd w w.heap.size 7 (.slice A n c) n (R.flatMap rnC)) (hms : more.tx.size ≤ 9223372036854775807) (hT : Tabs w) :
    Calls Tryd.prog 3 #[.slice A n c, rnV more] w fun e w' => e = .returned (.bool true) ∧ Below w.heap.size w w' := by
  have hal := len_of rnC 7 (fun _ => rfl) (by decide) hR.1
  subst hal
  have hl1 := hR.len
  unfold maxLen at hl1
  obtain ⟨j0, gi, gz0, gz1, gz2⟩ := info_parts info28
  obtain ⟨wb, hwb⟩ : ∃ W, w.alloc (.cells (rnC more).toArray 28) = W := ⟨_, rfl⟩
  have hpb : wb.heap[w.heap.size]? = some (.cells (rnC more).toArray 28 (0, 0)) := by rw [← hwb]; exact heap_alloc_new w _
  have hb0 : Below w.heap.size w wb := by rw [← hwb]; exact (Below.refl _ w).alloc (Nat.le_refl _) _
  have HWB := Lib.hid hwb
  have HB0 := Lib.hid hb0
  have hpl := (Array.getElem?_eq_some_iff.1 hpb).1
  have HPB := Lib.hid (fun W (hW : Below wb.heap.size wb W) => (hW.block w.heap.size hpl).trans hpb)
  have HR := Lib.hid (fun W (hW : Below wb.heap.size wb W) => (hR.below' hb0 (Nat.le_refl _)).below' hW hb0.size)
  have HT := Lib.hid (fun W (hW : Below wb.heap.size wb W) => hT.below (hb0.trans (hW.mono hb0.size)))
  have HBW := Lib.hid (fun W (hW : Below wb.heap.size wb W) => hb0.trans (hW.mono hb0.size))
  clear hR hwb hpb hb0 hpl hT
  unfold rnV
  go_enter Tryd.func3, Tryd.ntmps3
  go_wp2_with fail
  rw [show w.alloc (.cells #[.int .i64 more.af.s.T, .int .i64 more.af.s.R, .int .i64 more.af.I, .int .i64 more.el.s.T, .int .i64 more.el.s.R, .int .i64 more.el.I, .string more.tx] 28) = wb from HWB.out]
  obtain ⟨bp, hbp⟩ : ∃ k, w.heap.size = k := ⟨_, rfl⟩
  have HBP := Lib.hid hbp
  refine (awake_any wb (HT.out wb (Below.refl _ _))).mono ?_
  rintro e w1 ⟨rfl, hb1⟩
  have HB1 := Lib.hid hb1
  clear hb1
  go_wp2_with fail
  refine (few_any R 20 (by omega) A _ c w.heap.size w1 (HR.out w1 HB1.out)).mono ?_
  rintro e w1' ⟨⟨few, rfl, hfew⟩, rfl⟩
  have hp1 := HPB.out w1' HB1.out
  rw [hbp] at hp1
  have p6 : w1'.cell? ⟨bp, 6, none⟩ = some (.string more.tx) := cell_of_row _ _ 6 _ _ _ hp1
  have hbpl := (Array.getElem?_eq_some_iff.1 hp1).1
  clear hp1 hbp
  cases few
  · go_wp2
    go_ret
    exact ⟨rfl, HBP.out ▸ HBW.out w1' HB1.out⟩
  · obtain ⟨hR20, hR40⟩ := hfew rfl
    by_cases h40 : more.tx.size ≤ 40
    · have h4 : ((more.tx.size : Nat) : Int) ≤ 40 := by omega
      have hf1 : (flat R).length ≤ 100000 := by have := flat_size R 40 hR40; have := Nat.mul_le_mul_right 40 hR20; omega
      have hf2 : (flat (R ++ [more])).length ≤ 100000 := by
        have h1 := flat_size (R ++ [more]) 40 (fun r hr => by
          rcases List.mem_append.1 hr with hr | hr
          · exact hR40 r hr
          · rw [List.mem_singleton] at hr; rw [hr]; exact h40)
        have h2 : (R ++ [more]).length ≤ 21 := by simp; omega
        have := Nat.mul_le_mul_right 40 h2
        omega
      have ht1 : ∀ r ∈ R, r.tx.size ≤ 100000 := fun r hr => Nat.le_trans (hR40 r hr) (by omega)
      have ht2 : ∀ r ∈ R ++ [more], r.tx.size ≤ 100000 := fun r hr => by
        rcases List.mem_append.1 hr with hr | hr
        · exact ht1 r hr
        · rw [List.mem_singleton] at hr; rw [hr]; omega
      have HOr := Lib.hid (fun W (hW : Below wb.heap.size wb W) => order_any R A _ c w.heap.size W (HR.out W hW) (HBW.out W hW).size (HT.out W hW) hf1 ht1)
      have HF2 := Lib.hid hf2
      have HF1 := Lib.hid hf1
      have HT2 := Lib.hid ht2
      have HR40 := Lib.hid hR40
      clear hf1 hf2 ht1 ht2 hfew hR40
      go_wp2_with fail
      refine (HOr.out w1' HB1.out).mono ?_
      rintro e w2 ⟨O1, v1, hO1, rfl, hv1, hle1, hb2⟩
      obtain ⟨Av, cv, rfl, hvc, _⟩ := (Rd.of_own hv1).form
      have hO1l : O1.length ≤ 100000 := Nat.le_trans hle1 HF1.out
      have HO1 := Lib.hid hO1
      have HV1 := Lib.hid (fun W (hW : Below w2.heap.size w2 W) => (Rd.of_own hv1).below' hW (Nat.le_refl _))
      have HB2 := Lib.hid (HB1.out.trans (hb2.mono HB1.out.size))
      clear hO1 hv1 hle1 hb2 HOr p6
      go_wp2_with (at_builtin; refine wpList_append_rd rfl _ _ 22 rfl w2.heap.size 28 j0 _ 7 64 Tryd.underlying22 gi gz0 gz1 gz2 rfl (by decide) _ 0 [] rfl (World.ownsRow_nil _ _ _ _) _ w.heap.size R.length (R.flatMap rnC) rfl (HR.out w2 HB2.out) (list_one rnC_one _) (by unfold maxLen; omega) (by omega) (Nat.le_refl _) ?_)
      intro va w3 hown3 hgrow3
      have hown3 : w3.ownsRow w2.heap.size 28 7 va R.length (R.flatMap rnC) := by simpa using hown3
      have hb3 : Below w2.heap.size w2 w3 := (Below.refl _ _).grown hgrow3 (Nat.le_refl _) (fun j hj => by simp [Value.ownBlock] at hj)
      obtain ⟨Ava, cva, rfl, _, _⟩ := (Rd.of_own hown3).form
      have hp3 := HPB.out w3 (HB2.out.trans (hb3.mono HB2.out.size))
      rw [HBP.out] at hp3
      have p0 : w3.cell? ⟨bp, 0, none⟩ = some (.int .i64 more.af.s.T) := cell_of_row _ _ 0 _ _ _ hp3
      have p1 : w3.cell? ⟨bp, 1, none⟩ = some (.int .i64 more.af.s.R) := cell_of_row _ _ 1 _ _ _ hp3
      have p2 : w3.cell? ⟨bp, 2, none⟩ = some (.int .i64 more.af.I) := cell_of_row _ _ 2 _ _ _ hp3
      have p3 : w3.cell? ⟨bp, 3, none⟩ = some (.int .i64 more.el.s.T) := cell_of_row _ _ 3 _ _ _ hp3
      have p4 : w3.cell? ⟨bp, 4, none⟩ = some (.int .i64 more.el.s.R) := cell_of_row _ _ 4 _ _ _ hp3
      have p5 : w3.cell? ⟨bp, 5, none⟩ = some (.int .i64 more.el.I) := cell_of_row _ _ 5 _ _ _ hp3
      have p6 : w3.cell? ⟨bp, 6, none⟩ = some (.string more.tx) := cell_of_row _ _ 6 _ _ _ hp3
      have HO3 := Lib.hid hown3
      have h23 := hb3.size
      have HB3 := Lib.hid hb3
      clear hown3 hgrow3 hb3 hp3
      go_wp2_with (at_builtin; refine wpList_append_own _ rfl _ _ 22 rfl w2.heap.size 28 j0 _ 7 64 Tryd.underlying22 gi gz0 gz1 gz2 rfl (by decide) _ R.length (R.flatMap rnC) rfl (HO3.out.alloc (.cells #[.int .i64 more.af.s.T, .int .i64 more.af.s.R, .int .i64 more.af.I, .int .i64 more.el.s.T, .int .i64 more.el.s.R, .int .i64 more.el.I, .string more.tx] 28)) ⟨w3.heap.size, 0, none⟩ 1 1 [.int .i64 more.af.s.T, .int .i64 more.af.s.R, .int .i64 more.af.I, .int .i64 more.el.s.T, .int .i64 more.el.s.R, .int .i64 more.el.I, .string more.tx] rfl rfl (cells_new w3 [.int .i64 more.af.s.T, .int .i64 more.af.s.R, .int .i64 more.af.I, .int .i64 more.el.s.T, .int .i64 more.el.s.R, .int .i64 more.el.I, .string more.tx] 28) (by simp [Value.oneCell']) (by unfold maxLen; omega) (by omega) (by simp; omega) ?_)
      intro vb w4 hown4 hgrow4 _
      have hown4 : w4.ownsRow w2.heap.size 28 7 vb (R.length + 1) ((R ++ [more]).flatMap rnC) := by rw [List.flatMap_append, List.flatMap_singleton]; exact hown4
      have hb4 : Below w2.heap.size w2 w4 := (HB3.out.alloc h23 _).grown hgrow4 (by simp; omega) (fun j hj => (HO3.out.lt j hj).1)
      obtain ⟨g4, c4, R4, rfl, _⟩ := own_parts hown4 (Nat.succ_pos _)
      have HOr2 := Lib.hid (order_any (R ++ [more]) _ _ c4 w4.heap.size w4 (Rd.of_own hown4) (Nat.le_refl _) (HT.out w4 (HB2.out.trans (hb4.mono HB2.out.size))) HF2.out HT2.out)
      have HB4 := Lib.hid hb4
      clear hown4 hgrow4 hb4 p0 p1 p2 p3 p4 p5 p6
      go_wp2_with fail
      refine HOr2.out.mono ?_
      rintro e w5 ⟨O2, v2, hO2, rfl, hv2, _, hb5⟩
      rw [flat_snoc] at hO2
      obtain ⟨Aw, cw, rfl, _, _⟩ := (Rd.of_own hv2).form
      have HO2 := Lib.hid hO2
      have HV2 := Lib.hid (fun W (hW : Below w5.heap.size w5 W) => (Rd.of_own hv2).below' hW (Nat.le_refl _))
      have HB25 := Lib.hid (HB4.out.trans (hb5.mono HB4.out.size))
      have HB5 := Lib.hid (HB2.out.trans (HB25.out.mono HB2.out.size))
      clear hO2 hv2 hb5 HOr2
      go_wp2
      go_loopw [11, 12] (fun last i wr => KeRel O1 O2 w5 last i wr) (fun _ i _ => O1.length - (intOf i).toNat)
      case atStart => exact ⟨0, -1, Nat.zero_le _, rfl, rfl, .inl ⟨rfl, rfl⟩, Below.refl _ _⟩
      case round =>
        obtain ⟨k, z, hk, rfl, rfl, hz, hb⟩ := hrel
        obtain ⟨wo, rfl⟩ : ∃ wo : World, wo = wr := ⟨_, rfl⟩
        by_cases hlt : k < O1.length
        · obtain ⟨b, o, rfl, hBb, hcell⟩ := rd_at idC 3 (fun _ => rfl) (by decide) (show Rd wo w2.heap.size 3 (.slice Av (ids O1).length cv) (ids O1).length ((ids O1).flatMap idC) from by rw [ids_len]; exact HV1.out wo (HB25.out.trans (hb.mono HB25.out.size))) (show k < (ids O1).length by rw [ids_len]; exact hlt)
          rw [ids_get] at hcell
          have hat := at_any (ids O2) O1[k].2.id Aw _ cw w5.heap.size wo (HV2.out wo hb) hb.size
          have hst := fun r (hr : AtIs (ids O2) O1[k].2.id r) => keeps_step HO1.out HO2.out hlt hz hr
          obtain ⟨x, hx⟩ : ∃ x, O1[k].2.id = x := ⟨_, rfl⟩
          rw [hx] at hcell hat hst
          have c0 : wo.cell? ⟨b, o + k * 3, none⟩ = some (.int .i64 x.s.T) := hcell 0 _ rfl
          have c1 : wo.cell? ⟨b, o + k * 3 + 1, none⟩ = some (.int .i64 x.s.R) := hcell 1 _ rfl
          have c2 : wo.cell? ⟨b, o + k * 3 + 2, none⟩ = some (.int .i64 x.I) := hcell 2 _ rfl
          have i1 : (0 : Int) ≤ (k : Int) := by omega
          have i2 : (k : Int) < (O1.length : Int) := by omega
          have HAT := Lib.hid hat
          have HSTEP := Lib.hid hst
          have HB := Lib.hid hb
          unfold idV at HAT
          clear hcell hat hst hx hz hb
          go_wp2_with fail
          refine HAT.out.mono ?_
          rintro e w6 ⟨⟨r, rfl, hr⟩, hg6⟩
          obtain ⟨hzr, hls⟩ := HSTEP.out r hr
          have HLS := Lib.hid hls
          have HB6 := Lib.hid (HB.out.trans (hg6.below.mono HB.out.size))
          have hnr : ¬ r ≤ z := by omega
          clear hr hls hg6 c0 c1 c2
          go_wp2
          go_roundw
          case rel => exact ⟨k + 1, r, by omega, by go_num, rfl, HLS.out, HB6.out⟩
          case measure => simp [intOf]; omega
        · have HB := Lib.hid hb
          clear hb hz
          go_wp2
          go_ret
          exact ⟨rfl, HBP.out ▸ HBW.out wo (HB5.out.trans (HB.out.mono HB5.out.size))⟩
    · have h4 : (40 : Int) < ((more.tx.size : Nat) : Int) := by omega
      go_wp2
      go_ret
      exact ⟨rfl, HBP.out ▸ HBW.out w1' HB1.out⟩
end Go.Proofs.YtphapjbfaomblaaDoor
