/- The program's Seen. -/
import Derived.Test.YtphapjbfaomblaaDoorGJ
import Derived.BigRegion
import Derived.Carry
namespace Go.Proofs.YtphapjbfaomblaaDoor
open Go Go.RowKit Go.Maps
def Boxes (wr : World) (b8 b9 bi bo : Nat) : Prop := wr.heap[b8]? = some (.cells #[.map (some bi)] 80 (0, 0)) ∧ wr.heap[b9]? = some (.cells #[.map (some bo)] 81 (0, 0))
theorem Boxes.touch {F : Nat → Prop} {w w' : World} {b8 b9 bi bo : Nat} (h : Boxes w b8 b9 bi bo) (t : Touch F w w') (h8 : ¬ F b8) (h9 : ¬ F b9) : Boxes w' b8 b9 bi bo := ⟨block_touch h.1 t h8, block_touch h.2 t h9⟩
def SeRel (on1 : List Stamp) (gone1 : List Id) (w : World) (b8 b9 bi bo : Nat) (wr : World) : Prop :=
  (∃ m D, CM 24 stK on1 wr bi m D) ∧ (∃ m D, CM 26 idK gone1 wr bo m D) ∧ Boxes wr b8 b9 bi bo ∧ Below w.heap.size w wr
def SeL1 (on : List Stamp) (w : World) (b8 b9 bi bo : Nat) (i : Value) (wr : World) : Prop := ∃ j : Nat, j ≤ on.length ∧ i = .int .i64 j ∧ SeRel (on.take j) [] w b8 b9 bi bo wr
def SeL2 (on : List Stamp) (gone : List Id) (w : World) (b8 b9 bi bo : Nat) (i : Value) (wr : World) : Prop := ∃ j : Nat, j ≤ gone.length ∧ i = .int .i64 j ∧ SeRel on (gone.take j) w b8 b9 bi bo wr
def seenOf (on : List Stamp) (gone : List Id) (O : List Nd) : List El := (els O).filter (fun e => !leaves on gone e)
def SeenPost (R : List Rn) (on : List Stamp) (gone : List Id) (w : World) (e : Ending) (w' : World) : Prop :=
  ∃ O v, OrderOf Id.Lt El.id El.af zeroI (Counts (flat R)) O ∧ e = .returned (.tuple #[v, .string (ofL (txt (seenOf on gone O)))]) ∧ w'.ownsRow w.heap.size 26 3 v (seenOf on gone O).length (((seenOf on gone O).map El.id).flatMap idC) ∧ O.length ≤ (flat R).length ∧ Below w.heap.size w w'
theorem cm_start {α : Type} [DecidableEq α] {k : TypeId} {K : α → Lit} {w : World} {b : Nat} (h : w.ownsMap Tryd.prog k (plainElem (H := HH) Tryd.prog 3) b 0 (.map [])) : CM k K ([] : List α) w b 0 (.map []) := ⟨h, Nat.le_refl _, fun s => by simp [cnt, DataW.atKey]⟩
set_option maxRecDepth 100000 in
set_option maxHeartbeats 8000000 in
theorem seen_any (R : List Rn) (on : List Stamp) (gone : List Id) (A A1 A2 : Option Addr) (n c n1 c1 n2 c2 B0 : Nat) (w : World) (hR : Rd w B0 7 (.slice A n c) n (R.flatMap rnC)) (hR1 : Rd w B0 2 (.slice A1 n1 c1) n1 (on.flatMap stC)) (hR2 : Rd w B0 3 (.slice A2 n2 c2) n2 (gone.flatMap idC)) (hB : B0 ≤ w.heap.size) (hT : Tabs w) (hF : (flat R).length ≤ 100000) (htx : ∀ r ∈ R, r.tx.size ≤ 100000) (hon : on.length ≤ 100000) (hgo : gone.length ≤ 100000) :
    Calls Tryd.prog 18 #[.slice A n c, .slice A1 n1 c1, .slice A2 n2 c2] w (SeenPost R on gone w) := by
  obtain ⟨_, hnc, hcm⟩ := hR1.len
  obtain ⟨_, hnc2, hcm2⟩ := hR2.len
  unfold maxLen at hcm hcm2
  obtain rfl := len_of stC 2 (fun _ => rfl) (by decide) hR1.1
  obtain rfl := len_of idC 3 (fun _ => rfl) (by decide) hR2.1
  have HOrd := Lib.hid (fun W (hW : Below w.heap.size w W) => ordered_any R A n c B0 W (hR.below' hW hB) (Nat.le_trans hB hW.size) (hT.below hW) hF htx)
  have HR1 := Lib.hid (fun W (hW : Below w.heap.size w W) => hR1.below' hW hB)
  have HR2 := Lib.hid (fun W (hW : Below w.heap.size w W) => hR2.below' hW hB)
  have HF := Lib.hid hF
  clear hR hR1 hR2 hT hF htx
  have hmm := @run_makeMap Tryd.prog
  go_enter Tryd.func18, Tryd.ntmps18
  go_wp2
  obtain ⟨w0, hw0⟩ : ∃ W, ((((w.alloc (.map #[] 0)).alloc (.map #[] 0)).alloc (.cells #[.map (some w.heap.size)] 80)).alloc (.cells #[.map (some (w.heap.size + 1))] 81)) = W := ⟨_, rfl⟩
  have hi0 : w0.ownsMap Tryd.prog 24 (plainElem (H := HH) Tryd.prog 3) w.heap.size 0 (.map []) := by rw [← hw0]; exact ((((World.ownsMap_made w _ _ _).alloc _).alloc _).alloc _)
  have ho0 : w0.ownsMap Tryd.prog 26 (plainElem (H := HH) Tryd.prog 3) (w.heap.size + 1) 0 (.map []) := by
    rw [← hw0]
    have := World.ownsMap_made (H := HH) (w.alloc (.map #[] 0)) Tryd.prog 26 (plainElem Tryd.prog 3)
    rw [World.size_alloc] at this
    exact (this.alloc _).alloc _
  have hbx0 : Boxes w0 (w.heap.size + 1 + 1) (w.heap.size + 1 + 1 + 1) w.heap.size (w.heap.size + 1) := by
    rw [← hw0]
    constructor
    · have := heap_alloc_new ((w.alloc (.map #[] 0)).alloc (.map #[] 0)) (.cells #[.map (some w.heap.size)] 80)
      rw [World.size_alloc, World.size_alloc] at this
      exact (Below.heap_alloc _ _ _ (by simp)).trans this
    · have := heap_alloc_new (((w.alloc (.map #[] 0)).alloc (.map #[] 0)).alloc (.cells #[.map (some w.heap.size)] 80)) (.cells #[.map (some (w.heap.size + 1))] 81)
      rw [World.size_alloc, World.size_alloc, World.size_alloc] at this
      exact this
  have hb0 : Below w.heap.size w w0 := by rw [← hw0]; exact ((((Below.refl _ w).alloc (Nat.le_refl _) _).alloc (by simp) _).alloc (by simp; omega) _).alloc (by simp; omega) _
  rw [hw0]
  obtain ⟨bi, hbi⟩ : ∃ k, w.heap.size = k := ⟨_, rfl⟩
  obtain ⟨bo, hbo⟩ : ∃ k, w.heap.size + 1 = k := ⟨_, rfl⟩
  obtain ⟨b8, hb8⟩ : ∃ k, w.heap.size + 1 + 1 = k := ⟨_, rfl⟩
  obtain ⟨b9, hb9⟩ : ∃ k, w.heap.size + 1 + 1 + 1 = k := ⟨_, rfl⟩
  have hst : SeRel [] [] w b8 b9 bi bo w0 := by
    rw [← hbi, ← hbo, ← hb8, ← hb9]
    exact ⟨⟨_, _, cm_start hi0⟩, ⟨_, _, cm_start ho0⟩, hbx0, hb0⟩
  have hne : bi ≠ bo ∧ bi ≠ b8 ∧ bi ≠ b9 ∧ bo ≠ b8 ∧ bo ≠ b9 ∧ w.heap.size ≤ bi ∧ w.heap.size ≤ bo := by omega
  have HNE := Lib.hid hne
  have HST := Lib.hid hst
  clear hw0 hi0 ho0 hbx0 hb0 hst hmm hne
  rw [hb9, hb8, hbo]
  rw [hbi]
  clear hb9 hb8 hbo hbi
  go_loopw [18] (fun i wr => SeL1 on w b8 b9 bi bo i wr) (fun i _ => on.length - (intOf i).toNat)
  case atStart => exact ⟨0, Nat.zero_le _, rfl, HST.out⟩
  case round =>
    clear HST
    obtain ⟨j, hj, rfl, ⟨m, D, hi⟩, ⟨m2, D2, ho⟩, hbx8, hb⟩ := hrel
    obtain ⟨wo, rfl⟩ : ∃ wo : World, wo = wr := ⟨_, rfl⟩
    by_cases hlt : j < on.length
    · obtain ⟨b, o, rfl, hBr, hcell⟩ := rd_at stC 2 (fun _ => rfl) (by decide) (HR1.out wo hb) hlt
      have htk := List.take_succ_eq_append_getElem hlt
      obtain ⟨x, hx⟩ : ∃ x, on[j] = x := ⟨_, rfl⟩
      rw [hx] at hcell htk
      have c0 : wo.cell? ⟨b, o + j * 2, none⟩ = some (.int .i64 x.T) := hcell 0 _ rfl
      have c1 : wo.cell? ⟨b, o + j * 2 + 1, none⟩ = some (.int .i64 x.R) := hcell 1 _ rfl
      have i1 : (0 : Int) ≤ (j : Int) := by omega
      have i2 : (j : Int) < (on.length : Int) := by omega
      have hbr : b < wo.heap.size := by have := hb.size; omega
      have hba : Below wo.heap.size wo (wo.alloc (.cells #[.int .i64 x.T, .int .i64 x.R] 24)) := (Below.refl _ wo).alloc (Nat.le_refl _) _
      obtain ⟨W1, hW1⟩ : ∃ W, (wo.alloc (.cells #[.int .i64 x.T, .int .i64 x.R] 24)).drew = W := ⟨_, rfl⟩
      have hbW : Below wo.heap.size wo W1 := by rw [← hW1]; exact hba.drew
      have hbx : W1.heap[wo.heap.size]? = some (.cells #[.int .i64 x.T, .int .i64 x.R] 24 (0, 0)) := by rw [← hW1]; exact heap_alloc_new wo _
      have hi1 := hi.below hbW
      have ho1 := ho.below hbW
      have hB1 := hbx8.touch (Below.touch hbW (fun _ => False)) (fun h => h) (fun h => h)
      have hlk := hi1.look ok24 Tryd.underlying80 x
      obtain ⟨st, w1, w2, f2, f3, f4, hg, D3, hn⟩ := hi1.tick ok24 law24 Tryd.underlying80 x (by rw [List.length_take]; omega)
      have hcl := cnt_le (on.take j) x
      rw [List.length_take] at hcl
      obtain ⟨t, ht⟩ : ∃ t, cnt (on.take j) x = t := ⟨_, rfl⟩
      rw [ht] at hlk f2 f3 f4 hcl
      have hw : IntKind.i64.wrap ((t : Int) + 1) = (t : Int) + 1 := IntWalk.i64_in _ (by omega)
      have e0 : W1.cell? ⟨wo.heap.size, 0, none⟩ = some (.int .i64 x.T) := cell_of_row _ _ 0 _ _ _ hbx
      have e1 : W1.cell? ⟨wo.heap.size, 1, none⟩ = some (.int .i64 x.R) := cell_of_row _ _ 1 _ _ _ hbx
      have h8 : W1.cell? ⟨b8, 0, none⟩ = some (.map (some bi)) := cell_of_row _ _ 0 _ _ _ hB1.1
      have h9 : W1.cell? ⟨b9, 0, none⟩ = some (.map (some bo)) := cell_of_row _ _ 0 _ _ _ hB1.2
      obtain ⟨n1, n2, n3, n4, n5, n6, n7⟩ := HNE.out
      have tk : Touch (fun k => k = bi) W1 w2 := (Touch.refl _ W1).grown hg (fun k hk _ => by cases hk; rfl)
      have HR2n := Lib.hid (show SeL1 on w b8 b9 bi bo (.int .i64 ((j + 1 : Nat) : Int)) w2 from ⟨j + 1, by omega, rfl, ⟨_, _, by rw [htk]; exact hn⟩, ⟨_, _, ho1.touch tk (Ne.symm n1)⟩, hB1.touch tk (Ne.symm n2) (Ne.symm n3), (hb.trans (hbW.mono hb.size)).trans (tk.below (Nat.le_trans hb.size hbW.size) (fun y hy e => by omega))⟩)
      unfold stV at hlk f2 f3
      unfold goInt at f2 f4
      subst hW1
      clear hcell htk hx hba hbW hbx hi1 ho1 hB1 hn ht hg tk hi ho hbx8 hb hcl n1 n2 n3 n4 n5 n6 n7
      go_wp2
      go_region
      clear hlk f2 f3 f4 e0 e1 h8 h9 c0 c1
      go_wp2
      go_roundw
      case rel => simpa using HR2n.out
      case measure => simp [intOf]; omega
    · obtain rfl : j = on.length := by omega
      rw [List.take_length] at hi
      have HS2 := Lib.hid (show SeL2 on gone w b8 b9 bi bo (.int .i64 0) wo from ⟨0, Nat.zero_le _, rfl, ⟨m, D, hi⟩, ⟨m2, D2, ho⟩, hbx8, hb⟩)
      clear hi ho hbx8 hb
      go_wp2
      go_loopw [31] (fun i wr => SeL2 on gone w b8 b9 bi bo i wr) (fun i _ => gone.length - (intOf i).toNat)
      case atStart => exact HS2.out
      case round =>
        clear HS2
        obtain ⟨j, hj, rfl, ⟨m, D, hi⟩, ⟨m2, D2, ho⟩, hbx8, hb⟩ := hrel
        obtain ⟨wo, rfl⟩ : ∃ wo : World, wo = wr := ⟨_, rfl⟩
        by_cases hlt : j < gone.length
        · obtain ⟨b, o, rfl, hBr, hcell⟩ := rd_at idC 3 (fun _ => rfl) (by decide) (HR2.out wo hb) hlt
          have htk := List.take_succ_eq_append_getElem hlt
          obtain ⟨x, hx⟩ : ∃ x, gone[j] = x := ⟨_, rfl⟩
          rw [hx] at hcell htk
          have c0 : wo.cell? ⟨b, o + j * 3, none⟩ = some (.int .i64 x.s.T) := hcell 0 _ rfl
          have c1 : wo.cell? ⟨b, o + j * 3 + 1, none⟩ = some (.int .i64 x.s.R) := hcell 1 _ rfl
          have c2 : wo.cell? ⟨b, o + j * 3 + 2, none⟩ = some (.int .i64 x.I) := hcell 2 _ rfl
          have i1 : (0 : Int) ≤ (j : Int) := by omega
          have i2 : (j : Int) < (gone.length : Int) := by omega
          have hbr : b < wo.heap.size := by have := hb.size; omega
          have hba : Below wo.heap.size wo (wo.alloc (.cells #[.int .i64 x.s.T, .int .i64 x.s.R, .int .i64 x.I] 26)) := (Below.refl _ wo).alloc (Nat.le_refl _) _
          obtain ⟨W1, hW1⟩ : ∃ W, (wo.alloc (.cells #[.int .i64 x.s.T, .int .i64 x.s.R, .int .i64 x.I] 26)).drew = W := ⟨_, rfl⟩
          have hbW : Below wo.heap.size wo W1 := by rw [← hW1]; exact hba.drew
          have hbx : W1.heap[wo.heap.size]? = some (.cells #[.int .i64 x.s.T, .int .i64 x.s.R, .int .i64 x.I] 26 (0, 0)) := by rw [← hW1]; exact heap_alloc_new wo _
          have hi1 := hi.below hbW
          have ho1 := ho.below hbW
          have hB1 := hbx8.touch (Below.touch hbW (fun _ => False)) (fun h => h) (fun h => h)
          have hlk := ho1.look ok26 Tryd.underlying81 x
          obtain ⟨st, w1, w2, f2, f3, f4, hg, D3, hn⟩ := ho1.tick ok26 law26 Tryd.underlying81 x (by rw [List.length_take]; omega)
          have hcl := cnt_le (gone.take j) x
          rw [List.length_take] at hcl
          obtain ⟨t, ht⟩ : ∃ t, cnt (gone.take j) x = t := ⟨_, rfl⟩
          rw [ht] at hlk f2 f3 f4 hcl
          have hw : IntKind.i64.wrap ((t : Int) + 1) = (t : Int) + 1 := IntWalk.i64_in _ (by omega)
          have e0 : W1.cell? ⟨wo.heap.size, 0, none⟩ = some (.int .i64 x.s.T) := cell_of_row _ _ 0 _ _ _ hbx
          have e1 : W1.cell? ⟨wo.heap.size, 1, none⟩ = some (.int .i64 x.s.R) := cell_of_row _ _ 1 _ _ _ hbx
          have e2 : W1.cell? ⟨wo.heap.size, 2, none⟩ = some (.int .i64 x.I) := cell_of_row _ _ 2 _ _ _ hbx
          have h8 : W1.cell? ⟨b8, 0, none⟩ = some (.map (some bi)) := cell_of_row _ _ 0 _ _ _ hB1.1
          have h9 : W1.cell? ⟨b9, 0, none⟩ = some (.map (some bo)) := cell_of_row _ _ 0 _ _ _ hB1.2
          obtain ⟨n1, n2, n3, n4, n5, n6, n7⟩ := HNE.out
          have tk : Touch (fun k => k = bo) W1 w2 := (Touch.refl _ W1).grown hg (fun k hk _ => by cases hk; rfl)
          have HR2n := Lib.hid (show SeL2 on gone w b8 b9 bi bo (.int .i64 ((j + 1 : Nat) : Int)) w2 from ⟨j + 1, by omega, rfl, ⟨_, _, hi1.touch tk n1⟩, ⟨_, _, by rw [htk]; exact hn⟩, hB1.touch tk (Ne.symm n4) (Ne.symm n5), (hb.trans (hbW.mono hb.size)).trans (tk.below (Nat.le_trans hb.size hbW.size) (fun y hy e => by omega))⟩)
          unfold idV at hlk f2 f3
          unfold goInt at f2 f4
          subst hW1
          clear hcell htk hx hba hbW hbx hi1 ho1 hB1 hn ht hg tk hi ho hbx8 hb hcl n1 n2 n3 n4 n5 n6 n7
          go_wp2
          go_region
          clear hlk f2 f3 f4 e0 e1 e2 h8 h9 c0 c1 c2
          go_wp2
          go_roundw
          case rel => simpa using HR2n.out
          case measure => simp [intOf]; omega
        · obtain rfl : j = gone.length := by omega
          rw [List.take_length] at ho
          have hc := fun e W (hW : Below wo.heap.size wo W) => seen1_any on gone e b8 b9 bi bo m m2 D D2 W ((hW.block _ (Array.getElem?_eq_some_iff.1 hbx8.1).1).trans hbx8.1) ((hW.block _ (Array.getElem?_eq_some_iff.1 hbx8.2).1).trans hbx8.2) (hi.below hW) (ho.below hW)
          have HC := Lib.hid hc
          have HB := Lib.hid hb
          have HO := Lib.hid (HOrd.out wo hb)
          clear hi ho hbx8 hb hc hj
          go_wp2_with fail
          refine HO.out.mono ?_
          rintro e w4 ⟨v4, O, rfl, hO4, hrow4, hle4, hb4⟩
          rw [ndC_els] at hrow4
          have hl : (els O).length = O.length := by simp [els]
          rw [← hl] at hrow4
          have HDel := Lib.hid (delete_any (els O) (leaves on gone) b8 b9 v4 wo.heap.size wo w4 hb4 hrow4 (Nat.le_refl _) hb4.size (by have := HF.out; omega) HC.out)
          have HO4 := Lib.hid hO4
          have HB4 := Lib.hid hb4
          have HL4 := Lib.hid hle4
          have HLL := Lib.hid hl
          clear hO4 hrow4 hb4 hl HO
          go_wp2_with fail
          refine HDel.out.mono ?_
          rintro r w5 ⟨v5, rfl, hrow5, hb5⟩
          have hfl : (seenOf on gone O).length ≤ (els O).length := List.length_filter_le _ _
          obtain ⟨A5, c5, rfl, _, _⟩ := (Rd.of_own hrow5).form
          have hx : (txt (seenOf on gone O)).length ≤ 1000000000 := by
            have h1 := txt_len4 (seenOf on gone O) (fun e he => flat_pc R e (order_els HO4.out e (List.mem_filter.1 he).1))
            have h2 := HF.out
            have h3 := HLL.out
            have h4 := HL4.out
            omega
          have HTo := Lib.hid (told_any (seenOf on gone O) A5 _ c5 w5.heap.size w5 (Rd.of_own hrow5) (Nat.le_refl _) (by have := HF.out; have := HLL.out; have := HL4.out; omega) hx)
          have HB5 := Lib.hid (HB.out.trans ((HB4.out.trans hb5).mono HB.out.size))
          clear hrow5 hb5 hfl hx
          go_wp2_with fail
          refine HTo.out.mono ?_
          rintro r w6 ⟨v6, rfl, hv6, hb6⟩
          have HP := Lib.hid (show SeenPost R on gone w (.returned (.tuple #[v6, .string (ofL (txt (seenOf on gone O)))])) w6 from ⟨O, v6, HO4.out, rfl, own_base hv6 HB5.out.size, HL4.out, HB5.out.trans (hb6.mono HB5.out.size)⟩)
          clear hv6 hb6
          go_wp2
          go_ret2
          exact HP.out
end Go.Proofs.YtphapjbfaomblaaDoor
