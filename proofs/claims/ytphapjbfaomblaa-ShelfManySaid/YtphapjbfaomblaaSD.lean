/- The shelf's Find and Place. -/
import Derived.Test.YtphapjbfaomblaaSC
namespace Go.Proofs.Ytphapjbfaomblaa
open Go Go.RowKit Go.Maps
def zeroI : Id := ⟨⟨0, 0, by decide, by decide⟩, 0, by decide⟩
theorem results_cell_row1 {P : Program} {fn : Func} {p u : Tmp} {ty : TypeId} (h : fn.results = #[.cell p ty, .tmp u]) (tmps : Array Value) (w : World) (g : Nat) (t : TypeId) (cs : Array Value) (fr : Nat × Nat) (d : TypeDesc)
    (hp : tmps.getD p undef = .pointer (some ⟨g, 0, none⟩)) (hg : w.heap[g]? = some (.cells cs t fr))
    (hu : P.underlying ty = some d) (hd : (match d with | .struct _ | .array _ _ => true | _ => false) = true) (hi : (P.info? ty).map (·.size) = some cs.size) :
    (results fn tmps).run P w = .ok (.tuple #[.agg cs, tmps.getD u undef]) w := by
  have hp' : tmps[p]?.getD undef = .pointer (some ⟨g, 0, none⟩) := by simpa using hp
  simp [results, h, hp', asAddr, run_loadVar_row w g t ty cs fr d hg hu hd hi, Result.andThen]
theorem set3_heap {w : World} {g : Nat} {a b c v u z : Value} {t : TypeId} {fr : Nat × Nat} (h : w.heap[g]? = some (.cells #[a, b, c] t fr)) : (((w.setCell ⟨g, 0, none⟩ v).setCell ⟨g, 1, none⟩ u).setCell ⟨g, 2, none⟩ z).heap[g]? = some (.cells #[v, u, z] t fr) := by
  simp [World.setCell, Array.getElem?_modify, h]
def findV (R : Row Id) (k : Int) : Id × Int := match (if k < 0 then none else findR R k.toNat) with
  | some x => (x, 0)
  | none => (zeroI, 100)
def FindPost (R : Row Id) (k : Int) (w : World) (e : Ending) (w' : World) : Prop := e = .returned (.tuple #[idV (findV R k).1, .int .i64 (findV R k).2]) ∧ Below w.heap.size w w'
def FiRel (Bs : List Bl) (k0 bx : Nat) (w : World) (kv i : Value) (wr : World) : Prop :=
  ∃ i' m : Nat, i' ≤ Bs.length ∧ m ≤ k0 ∧ i = .int .i64 i' ∧ kv = .int .i64 m ∧ findR (rowOf (Bs.drop i')) m = findR (rowOf Bs) k0 ∧ wr.heap[bx]? = some (.cells #[.int .i64 0, .int .i64 0, .int .i64 0] 33 (0, 0)) ∧ Below w.heap.size w wr
def FjRel (Q R : Row Id) (k0 bx : Nat) (w : World) (kv i : Value) (wr : World) : Prop :=
  ∃ j m : Nat, j ≤ R.length ∧ m ≤ k0 ∧ i = .int .i64 j ∧ kv = .int .i64 m ∧ findR (R.drop j) m = findR Q k0 ∧ m < cntR (R.drop j) ∧ wr.heap[bx]? = some (.cells #[.int .i64 0, .int .i64 0, .int .i64 0] 33 (0, 0)) ∧ Below w.heap.size w wr
theorem findV_none {R : Row Id} {k : Int} (h : (if k < 0 then none else findR R k.toNat) = none) : findV R k = (zeroI, 100) := by unfold findV; rw [h]
theorem findV_some {R : Row Id} {k : Int} {x : Id} (h : (if k < 0 then none else findR R k.toNat) = some x) : findV R k = (x, 0) := by unfold findV; rw [h]
set_option maxRecDepth 100000 in
set_option maxHeartbeats 4000000 in
theorem find_any {w : World} {sb mp : Nat} {vb : Value} {Bs : List Bl} {D : DataW (Option Nat)} {t : Int} {R0 : Row Id} (h : ShIs w sb mp vb Bs D t) (hT : Tidy Bs D t R0) (hlen : R0.length ≤ 100000) (k0 : Int) :
    Calls Try.prog 14 #[.pointer (some ⟨sb, 0, none⟩), .int .i64 k0] w (FindPost R0 k0 w) := by
  obtain ⟨hrow, _, hcnt, hall, _, _⟩ := hT
  obtain ⟨Av, cv, rfl, hnc0, hcm0⟩ := (Rd.of_own h.row).form
  unfold maxLen at hcm0
  have HS := Lib.hid (fun W (hW : Below w.heap.size w W) => h.below hW)
  have hsb : sb < w.heap.size := kind_lt (kind_cell h.cell)
  obtain ⟨W0, hW0⟩ : ∃ W, w.alloc (.cells #[.int .i64 0, .int .i64 0, .int .i64 0] 33) = W := ⟨_, rfl⟩
  have hb0 : Below w.heap.size w W0 := by rw [← hW0]; exact (Below.refl _ w).alloc (Nat.le_refl _) _
  have hx0 : W0.heap[w.heap.size]? = some (.cells #[.int .i64 0, .int .i64 0, .int .i64 0] 33 (0, 0)) := by rw [← hW0]; exact heap_alloc_new w _
  have c0 : W0.cell? ⟨sb, 0, none⟩ = some (.slice Av Bs.length cv) := cell_of_row _ _ 0 _ _ _ (h.below hb0).cell
  have c2 : W0.cell? ⟨sb, 2, none⟩ = some (.int .i64 t) := cell_of_row _ _ 2 _ _ _ (h.below hb0).cell
  have f0 : ∀ i, W0.frozen? ⟨w.heap.size, i, none⟩ = false := fun i => by simp [World.frozen?, hx0]
  have q0 : W0.cell? ⟨w.heap.size, 0, none⟩ = some (.int .i64 0) := cell_of_row _ _ 0 _ _ _ hx0
  have q1 : W0.cell? ⟨w.heap.size, 1, none⟩ = some (.int .i64 0) := cell_of_row _ _ 1 _ _ _ hx0
  have q2 : W0.cell? ⟨w.heap.size, 2, none⟩ = some (.int .i64 0) := cell_of_row _ _ 2 _ _ _ hx0
  have c0x : (w.alloc (.cells #[.int .i64 0, .int .i64 0, .int .i64 0] 33)).cell? ⟨sb, 0, none⟩ = some (.slice Av Bs.length cv) := by rw [hW0]; exact c0
  have c2x : (w.alloc (.cells #[.int .i64 0, .int .i64 0, .int .i64 0] 33)).cell? ⟨sb, 2, none⟩ = some (.int .i64 t) := by rw [hW0]; exact c2
  have f0x : ∀ i, (w.alloc (.cells #[.int .i64 0, .int .i64 0, .int .i64 0] 33)).frozen? ⟨w.heap.size, i, none⟩ = false := by rw [hW0]; exact f0
  have q0x : (w.alloc (.cells #[.int .i64 0, .int .i64 0, .int .i64 0] 33)).cell? ⟨w.heap.size, 0, none⟩ = some (.int .i64 0) := by rw [hW0]; exact q0
  have q1x : (w.alloc (.cells #[.int .i64 0, .int .i64 0, .int .i64 0] 33)).cell? ⟨w.heap.size, 1, none⟩ = some (.int .i64 0) := by rw [hW0]; exact q1
  have q2x : (w.alloc (.cells #[.int .i64 0, .int .i64 0, .int .i64 0] 33)).cell? ⟨w.heap.size, 2, none⟩ = some (.int .i64 0) := by rw [hW0]; exact q2
  clear c0 c2 f0 q0 q1 q2
  have HX0 := Lib.hid hx0
  have HB0 := Lib.hid hb0
  have HW0 := Lib.hid hW0
  have ht := cntR_le R0
  have hbelow : ∀ W : World, Below w.heap.size w W → Below w.heap.size w (((W.setCell ⟨w.heap.size, 0, none⟩ (.int .i64 0)).setCell ⟨w.heap.size, 1, none⟩ (.int .i64 0)).setCell ⟨w.heap.size, 2, none⟩ (.int .i64 0)) := fun W hW =>
    ((hW.setCell (p := ⟨w.heap.size, 0, none⟩) (Nat.le_refl _) _).setCell (p := ⟨w.heap.size, 1, none⟩) (Nat.le_refl _) _).setCell (p := ⟨w.heap.size, 2, none⟩) (Nat.le_refl _) _
  have HBE := Lib.hid hbelow
  by_cases hk : k0 < 0
  · have HV := Lib.hid (findV_none (R := R0) (k := k0) (by rw [if_pos hk]))
    clear h hb0 hx0 hW0 hbelow
    go_enter Try.func14, Try.ntmps14
    go_wp2
    try rw [HW0.out]
    refine bodyPost_ret (results_cell_row1 rfl _ _ w.heap.size 33 #[.int .i64 0, .int .i64 0, .int .i64 0] (0, 0) _ rfl HX0.out Try.underlying33 rfl (by kernel_rfl)) rfl ?_
    unfold FindPost
    rw [HV.out]
    exact ⟨rfl, HB0.out⟩
  · by_cases hkt : t ≤ k0
    · have HV := Lib.hid (findV_none (R := R0) (k := k0) (by rw [if_neg hk]; exact findR_none _ _ (by omega)))
      clear h hb0 hx0 hW0 hbelow
      go_enter Try.func14, Try.ntmps14
      go_wp2
      try rw [HW0.out]
      refine bodyPost_ret (results_cell_row1 rfl _ _ w.heap.size 33 #[.int .i64 0, .int .i64 0, .int .i64 0] (0, 0) _ rfl HX0.out Try.underlying33 rfl (by kernel_rfl)) rfl ?_
      unfold FindPost
      rw [HV.out]
      exact ⟨rfl, HB0.out⟩
    · obtain ⟨kn, rfl⟩ : ∃ kn : Nat, k0 = (kn : Int) := ⟨k0.toNat, by omega⟩
      have hkn : kn < cntR R0 := by omega
      have HVS := Lib.hid (fun (x : Id) (hx : findR R0 kn = some x) => findV_some (R := R0) (k := (kn : Int)) (by rw [if_neg hk]; exact hx))
      have HVN := Lib.hid (fun (hx : findR R0 kn = none) => findV_none (R := R0) (k := (kn : Int)) (by rw [if_neg hk]; exact hx))
      have HROW := Lib.hid hrow
      obtain ⟨bx, hbx⟩ : ∃ z, w.heap.size = z := ⟨_, rfl⟩
      have HCNT := Lib.hid hcnt
      have HBX := Lib.hid hbx
      have HRR := Lib.hid hrow
      have hk1 : (kn : Int) < t := by omega
      have hk2 : kn ≤ 100000 := by omega
      clear h hb0 hx0 hW0 hbelow hcnt hall ht hbx hrow
      go_enter Try.func14, Try.ntmps14
      go_wp2
      rw [HW0.out]
      rw [HBX.out]
      rw [HBX.out] at HX0
      clear q0x q1x q2x f0x hk1 c0x c2x hk hkt hkn
      go_loopw [1, 26] (fun kv i wr => FiRel Bs kn bx w kv i wr) (fun _ i _ => Bs.length - (intOf i).toNat)
      case atStart => exact ⟨0, kn, Nat.zero_le _, Nat.le_refl _, rfl, rfl, by rw [List.drop_zero], HX0.out, HB0.out⟩
      case round =>
        obtain ⟨k, m, hk, hmk, rfl, rfl, hf, hx, hb⟩ := hrel
        obtain ⟨wo, rfl⟩ : ∃ wo : World, wo = wr := ⟨_, rfl⟩
        have HF := Lib.hid hf
        have HX := Lib.hid hx
        have HBo := Lib.hid hb
        clear hf hx hb
        by_cases hlt : k < Bs.length
        · obtain ⟨g, cap, e1, c1, _⟩ := (HS.out wo HBo.out).at hlt
          injection e1 with e1 _ e3
          subst e1; subst e3
          have hbm : Bs[k] ∈ Bs := List.getElem_mem hlt
          have hdr : rowOf (Bs.drop k) = (Bs[k]).R ++ rowOf (Bs.drop (k + 1)) := by rw [← rowOf_cons, List.getElem_cons_drop]
          have hbl := fun W (hW : Below w.heap.size w W) => (HS.out W hW).bl _ hbm
          have hn := HCNT.out _ hbm
          have hRl : (Bs[k]).R.length ≤ R0.length := by
            have e : rowOf Bs = rowOf (Bs.take k) ++ ((Bs[k]).R ++ rowOf (Bs.drop (k + 1))) := by
              rw [← rowOf_cons, List.getElem_cons_drop, ← rowOf_app, List.take_append_drop]
            rw [← HRR.out, e]
            simp only [List.length_append]
            omega
          obtain ⟨b, hbe⟩ : ∃ b, Bs[k] = b := ⟨_, rfl⟩
          rw [hbe] at c1 hdr hbl hn hRl
          have hadl : b.ad < w.heap.size := kind_lt (kind_cell (hbl w (Below.refl _ _)).cell)
          obtain ⟨ad, vi, vs, n, R⟩ := b
          dsimp only at c1 hdr hadl hn hRl
          subst hn
          obtain ⟨Ai, ci, hvi, _, hcm⟩ := (Rd.of_own (hbl w (Below.refl _ _)).ids).form
          obtain ⟨As, cs, hvs, _, hcm2⟩ := (Rd.of_own (hbl w (Below.refl _ _)).sn).form
          dsimp only at hvi hvs
          subst hvi; subst hvs
          have HBL := Lib.hid hbl
          have c2 : wo.cell? ⟨ad, 0, none⟩ = some (.slice Ai R.length ci) := cell_of_row _ _ 0 _ _ _ (HBL.out wo HBo.out).cell
          have c3 : wo.cell? ⟨ad, 2, none⟩ = some (.int .i64 (cntR R)) := cell_of_row _ _ 2 _ _ _ (HBL.out wo HBo.out).cell
          have i1 : (0 : Int) ≤ (k : Int) := by omega
          have i2 : (k : Int) < (Bs.length : Int) := by omega
          have hcR := cntR_le R
          clear hbm hbl hbe hcm hcm2
          by_cases hge : cntR R ≤ m
          · have HF2 := Lib.hid (show findR (rowOf (Bs.drop (k + 1))) (m - cntR R) = findR (rowOf Bs) kn from by rw [← findR_app_ge R _ m hge, ← hdr]; exact HF.out)
            have j1 : ((cntR R : Nat) : Int) ≤ (m : Int) := by omega
            have j2 : IntKind.i64.wrap ((m : Int) - ((cntR R : Nat) : Int)) = ((m - cntR R : Nat) : Int) := by rw [IntWalk.i64_in _ (by omega)]; omega
            clear hdr
            go_wp2
            go_roundw
            case rel => exact ⟨k + 1, m - cntR R, by omega, by omega, by go_num, rfl, HF2.out, HX.out, HBo.out⟩
            case measure => simp [intOf]; omega
          · have HF2 := Lib.hid (show findR R m = findR (rowOf Bs) kn from by rw [← findR_app_lt R (rowOf (Bs.drop (k + 1))) m (by omega), ← hdr]; exact HF.out)
            have j1 : ¬ ((cntR R : Nat) : Int) ≤ (m : Int) := by omega
            have hlt2 : m < cntR R := by omega
            clear hdr
            go_wp2
            clear c1 c2 c3 j1 hge
            go_loopw [1, 47] (fun kv i wr => FjRel (rowOf Bs) R kn bx w kv i wr) (fun _ i _ => R.length - (intOf i).toNat)
            case atStart => exact ⟨0, m, Nat.zero_le _, hmk, rfl, rfl, by rw [List.drop_zero]; exact HF2.out, by rw [List.drop_zero]; exact hlt2, HX.out, HBo.out⟩
            case round =>
              obtain ⟨j, m2, hj, hm2, rfl, rfl, hf, hc, hx, hb⟩ := hrel
              obtain ⟨wq, rfl⟩ : ∃ wq : World, wq = wr := ⟨_, rfl⟩
              have HBj := Lib.hid hb
              have HXj := Lib.hid hx
              clear hb hx
              by_cases hjl : j < R.length
              · obtain ⟨b1, o1, rfl, hB1, hcell1⟩ := rd_at idC 3 (fun _ => rfl) (by decide) (show Rd wq w.heap.size 3 (.slice Ai (namesR R).length ci) (namesR R).length ((namesR R).flatMap idC) from by rw [names_len]; exact (Rd.of_own (HBL.out w (Below.refl _ _)).ids).below' HBj.out (Nat.le_refl _)) (show j < (namesR R).length by rw [names_len]; exact hjl)
                obtain ⟨b2, o2, rfl, hB2, hcell2⟩ := rd_at boC 1 (fun _ => rfl) (by decide) (show Rd wq w.heap.size 1 (.slice As (seenR R).length cs) (seenR R).length ((seenR R).flatMap boC) from by rw [seenR_len]; exact (Rd.of_own (HBL.out w (Below.refl _ _)).sn).below' HBj.out (Nat.le_refl _)) (show j < (seenR R).length by rw [seenR_len]; exact hjl)
                have hsn : (seenR R)[j]'(by rw [seenR_len]; exact hjl) = (R[j]).2 := by simp [seenR]
                have hnm : (namesR R)[j]'(by rw [names_len]; exact hjl) = (R[j]).1 := by simp [namesR]
                rw [hnm] at hcell1
                rw [hsn] at hcell2
                rw [← List.getElem_cons_drop hjl] at hf hc
                rw [cntR_cons] at hc
                obtain ⟨⟨x, q⟩, hxe⟩ : ∃ p, R[j] = p := ⟨_, rfl⟩
                rw [hxe] at hcell1 hcell2 hf hc
                dsimp only at hcell1 hcell2 hc
                have HBq1 : Below w.heap.size w (wq.alloc (.cells #[.int .i64 x.s.T, .int .i64 x.s.R, .int .i64 x.I] 33)) := HBj.out.alloc HBj.out.size _
                have d0 : wq.cell? ⟨b1, o1 + j * 3, none⟩ = some (.int .i64 x.s.T) := hcell1 0 _ rfl
                have d1 : wq.cell? ⟨b1, o1 + j * 3 + 1, none⟩ = some (.int .i64 x.s.R) := hcell1 1 _ rfl
                have d2 : wq.cell? ⟨b1, o1 + j * 3 + 2, none⟩ = some (.int .i64 x.I) := hcell1 2 _ rfl
                have hwb : b2 < wq.heap.size := Nat.lt_of_lt_of_le hB2 HBj.out.size
                have e0 : (wq.alloc (.cells #[.int .i64 x.s.T, .int .i64 x.s.R, .int .i64 x.I] 33)).cell? ⟨b2, o2 + j, none⟩ = some (.bool q) := by
                  rw [World.cell?_of_block (Below.heap_alloc _ _ _ hwb)]
                  have := hcell2 0 _ rfl
                  simpa using this
                have e1 : (wq.alloc (.cells #[.int .i64 x.s.T, .int .i64 x.s.R, .int .i64 x.I] 33)).cell? ⟨ad, 1, none⟩ = some (.slice (some ⟨b2, o2, none⟩) R.length cs) := cell_of_row _ _ 1 _ _ _ (HBL.out _ HBq1).cell
                have i3 : (0 : Int) ≤ (j : Int) := by omega
                have i4 : (j : Int) < (R.length : Int) := by omega
                have HB1 := Lib.hid HBq1
                have hbxl : bx < wq.heap.size := (Array.getElem?_eq_some_iff.1 HXj.out).1
                have hx1 : (wq.alloc (.cells #[.int .i64 x.s.T, .int .i64 x.s.R, .int .i64 x.I] 33)).heap[bx]? = some (.cells #[.int .i64 0, .int .i64 0, .int .i64 0] 33 (0, 0)) := (Below.heap_alloc _ _ _ hbxl).trans HXj.out
                have HX1 := Lib.hid hx1
                cases q
                · have HF3 := Lib.hid (show findR (R.drop (j + 1)) m2 = findR (rowOf Bs) kn from hf)
                  have HC3 := Lib.hid (show m2 < cntR (R.drop (j + 1)) from by simpa using hc)
                  clear hf hc hcell1 hcell2 hsn hnm hxe HBq1 hx1
                  go_wp2
                  go_roundw
                  case rel => exact ⟨j + 1, m2, by omega, hm2, by go_num, rfl, HF3.out, HC3.out, HX1.out, HB1.out⟩
                  case measure => simp [intOf]; omega
                · by_cases hm0 : m2 = 0
                  · subst hm0
                    have HV := Lib.hid (HVS.out x (by rw [← HROW.out, ← hf]; rfl))
                    have hbox := heap_alloc_new wq (.cells #[.int .i64 x.s.T, .int .i64 x.s.R, .int .i64 x.I] 33)
                    have g0 : (wq.alloc (.cells #[.int .i64 x.s.T, .int .i64 x.s.R, .int .i64 x.I] 33)).cell? ⟨wq.heap.size, 0, none⟩ = some (.int .i64 x.s.T) := cell_of_row _ _ 0 _ _ _ hbox
                    have g1 : (wq.alloc (.cells #[.int .i64 x.s.T, .int .i64 x.s.R, .int .i64 x.I] 33)).cell? ⟨wq.heap.size, 1, none⟩ = some (.int .i64 x.s.R) := cell_of_row _ _ 1 _ _ _ hbox
                    have g2 : (wq.alloc (.cells #[.int .i64 x.s.T, .int .i64 x.s.R, .int .i64 x.I] 33)).cell? ⟨wq.heap.size, 2, none⟩ = some (.int .i64 x.I) := cell_of_row _ _ 2 _ _ _ hbox
                    have z0 : (wq.alloc (.cells #[.int .i64 x.s.T, .int .i64 x.s.R, .int .i64 x.I] 33)).cell? ⟨bx, 0, none⟩ = some (.int .i64 0) := cell_of_row _ _ 0 _ _ _ hx1
                    have z1 : (wq.alloc (.cells #[.int .i64 x.s.T, .int .i64 x.s.R, .int .i64 x.I] 33)).cell? ⟨bx, 1, none⟩ = some (.int .i64 0) := cell_of_row _ _ 1 _ _ _ hx1
                    have z2 : (wq.alloc (.cells #[.int .i64 x.s.T, .int .i64 x.s.R, .int .i64 x.I] 33)).cell? ⟨bx, 2, none⟩ = some (.int .i64 0) := cell_of_row _ _ 2 _ _ _ hx1
                    have y0 : wq.cell? ⟨bx, 0, none⟩ = some (.int .i64 0) := cell_of_row _ _ 0 _ _ _ HXj.out
                    have y1 : wq.cell? ⟨bx, 1, none⟩ = some (.int .i64 0) := cell_of_row _ _ 1 _ _ _ HXj.out
                    have y2 : wq.cell? ⟨bx, 2, none⟩ = some (.int .i64 0) := cell_of_row _ _ 2 _ _ _ HXj.out
                    have zf : ∀ i, wq.frozen? ⟨bx, i, none⟩ = false := fun i => by simp [World.frozen?, HXj.out]
                    have zf2 : ∀ i, (wq.alloc (.cells #[.int .i64 x.s.T, .int .i64 x.s.R, .int .i64 x.I] 33)).frozen? ⟨bx, i, none⟩ = false := fun i => by simp [World.frozen?, hx1]
                    have hE := Lib.hid ((Below.heap_alloc (((wq.setCell ⟨bx, 0, none⟩ (.int .i64 x.s.T)).setCell ⟨bx, 1, none⟩ (.int .i64 x.s.R)).setCell ⟨bx, 2, none⟩ (.int .i64 x.I)) (.cells #[.int .i64 x.s.T, .int .i64 x.s.R, .int .i64 x.I] 33) bx (by simpa [World.setCell] using hbxl)).trans (set3_heap (v := .int .i64 x.s.T) (u := .int .i64 x.s.R) (z := .int .i64 x.I) HXj.out))
                    clear hf hc hcell1 hcell2 hsn hnm hxe HBq1 hx1 hbox
                    go_wp2
                    refine bodyPost_ret (results_cell_row1 rfl _ _ bx 33 #[.int .i64 x.s.T, .int .i64 x.s.R, .int .i64 x.I] (0, 0) _ rfl hE.out Try.underlying33 rfl (by kernel_rfl)) rfl ?_
                    unfold FindPost
                    rw [HV.out]
                    have hle : w.heap.size ≤ bx := Nat.le_of_eq HBX.out
                    exact ⟨rfl, (((HBj.out.setCell (p := ⟨bx, 0, none⟩) hle _).setCell (p := ⟨bx, 1, none⟩) hle _).setCell (p := ⟨bx, 2, none⟩) hle _).alloc (by have := HBj.out.size; simpa [World.setCell] using this) _⟩
                  · obtain ⟨m3, rfl⟩ : ∃ m3, m2 = m3 + 1 := ⟨m2 - 1, by omega⟩
                    have HF3 := Lib.hid (show findR (R.drop (j + 1)) m3 = findR (rowOf Bs) kn from hf)
                    have HC3 := Lib.hid (show m3 < cntR (R.drop (j + 1)) from by simp at hc; omega)
                    have n1 : ¬ (((m3 + 1 : Nat) : Int) = 0) := by omega
                    have n2 : IntKind.i64.wrap (((m3 + 1 : Nat) : Int) - 1) = (m3 : Int) := by rw [IntWalk.i64_in _ (by omega)]; omega
                    clear hf hc hcell1 hcell2 hsn hnm hxe HBq1 hx1
                    go_wp2
                    go_roundw
                    case rel => exact ⟨j + 1, m3, by omega, by omega, by go_num, by first | rfl | (congr 1; omega) | go_num, HF3.out, HC3.out, HX1.out, HB1.out⟩
                    case measure => simp [intOf]; omega
              · obtain rfl : j = R.length := by omega
                rw [List.drop_length] at hc
                simp [cntR] at hc
        · obtain rfl : k = Bs.length := by omega
          have HV := Lib.hid (HVN.out (by rw [← HROW.out, ← HF.out, List.drop_length]; rfl))
          have z0 : wo.cell? ⟨bx, 0, none⟩ = some (.int .i64 0) := cell_of_row _ _ 0 _ _ _ HX.out
          have z1 : wo.cell? ⟨bx, 1, none⟩ = some (.int .i64 0) := cell_of_row _ _ 1 _ _ _ HX.out
          have z2 : wo.cell? ⟨bx, 2, none⟩ = some (.int .i64 0) := cell_of_row _ _ 2 _ _ _ HX.out
          have zf : ∀ i, wo.frozen? ⟨bx, i, none⟩ = false := fun i => by simp [World.frozen?, HX.out]
          have hE := Lib.hid (set3_heap (v := .int .i64 0) (u := .int .i64 0) (z := .int .i64 0) HX.out)
          go_wp2
          refine bodyPost_ret (results_cell_row1 rfl _ _ bx 33 #[.int .i64 0, .int .i64 0, .int .i64 0] (0, 0) _ rfl (by first | exact hE.out | exact HX.out) Try.underlying33 rfl (by kernel_rfl)) rfl ?_
          unfold FindPost
          rw [HV.out]
          have hle : w.heap.size ≤ bx := Nat.le_of_eq HBX.out
          first
            | exact ⟨rfl, ((HBo.out.setCell (p := ⟨bx, 0, none⟩) hle _).setCell (p := ⟨bx, 1, none⟩) hle _).setCell (p := ⟨bx, 2, none⟩) hle _⟩
            | exact ⟨rfl, HBo.out⟩
end Go.Proofs.Ytphapjbfaomblaa
