/- Texts of this seat, one behind the other: SD, SE, X2. -/
import Derived.Test.YtphapjbfaomblaaDoorZb8
import Derived.Deep.RegionHeld3
import Derived.OwnWalk
import Derived.LaidEqlPtr
import Derived.Laws.AppendOwn
import Derived.Laws.OwnMore
import Derived.Test.YtphapjbfaomblaaDoorZb3
/- The shelf's Find and Place. -/
namespace Go.Proofs.YtphapjbfaomblaaDoor
open Go Go.RowKit Go.Maps
theorem results_cell_row1 {P : Program} {fn : Func} {p u : Tmp} {ty : TypeId} (h : fn.results = #[.cell p ty, .tmp u]) (tmps : Array Value) (w : World) (g : Nat) (t : TypeId) (cs : Array Value) (fr : Nat × Nat) (d : TypeDesc)
    (hp : tmps.getD p undef = .pointer (some ⟨g, 0, none⟩)) (hg : w.heap[g]? = some (.cells cs t fr))
    (hu : P.underlying ty = some d) (hd : (match d with | .struct _ | .array _ _ => true | _ => false) = true) (hi : (P.info? ty).map (·.size) = some cs.size) :
    (results fn tmps).run P w = .ok (.tuple #[.agg cs, tmps.getD u undef]) w := by
  have hp' : tmps[p]?.getD undef = .pointer (some ⟨g, 0, none⟩) := by simpa using hp
  simp [results, h, hp', asAddr, run_loadVar_row w g t ty cs fr d hg hu hd hi, Result.andThen]
theorem set3_heapS {w : World} {g : Nat} {a b c v u z : Value} {t : TypeId} {fr : Nat × Nat} (h : w.heap[g]? = some (.cells #[a, b, c] t fr)) : (((w.setCell ⟨g, 0, none⟩ v).setCell ⟨g, 1, none⟩ u).setCell ⟨g, 2, none⟩ z).heap[g]? = some (.cells #[v, u, z] t fr) := by
  simp [World.setCell, Array.getElem?_modify, h]
def findV (R : Row Id) (k : Int) : Id × Int := match (if k < 0 then none else findR R k.toNat) with
  | some x => (x, 0)
  | none => (zeroI, 100)
def FindPost (R : Row Id) (k : Int) (w : World) (e : Ending) (w' : World) : Prop := e = .returned (.tuple #[idV (findV R k).1, .int .i64 (findV R k).2]) ∧ Below w.heap.size w w'
def FiRel (Bs : List Bl) (k0 bx : Nat) (w : World) (kv i : Value) (wr : World) : Prop :=
  ∃ i' m : Nat, i' ≤ Bs.length ∧ m ≤ k0 ∧ i = .int .i64 i' ∧ kv = .int .i64 m ∧ findR (rowOf (Bs.drop i')) m = findR (rowOf Bs) k0 ∧ wr.heap[bx]? = some (.cells #[.int .i64 0, .int .i64 0, .int .i64 0] 26 (0, 0)) ∧ Below w.heap.size w wr
def FjRel (Q R : Row Id) (k0 bx : Nat) (w : World) (kv i : Value) (wr : World) : Prop :=
  ∃ j m : Nat, j ≤ R.length ∧ m ≤ k0 ∧ i = .int .i64 j ∧ kv = .int .i64 m ∧ findR (R.drop j) m = findR Q k0 ∧ m < cntR (R.drop j) ∧ wr.heap[bx]? = some (.cells #[.int .i64 0, .int .i64 0, .int .i64 0] 26 (0, 0)) ∧ Below w.heap.size w wr
theorem findV_none {R : Row Id} {k : Int} (h : (if k < 0 then none else findR R k.toNat) = none) : findV R k = (zeroI, 100) := by unfold findV; rw [h]
theorem findV_some {R : Row Id} {k : Int} {x : Id} (h : (if k < 0 then none else findR R k.toNat) = some x) : findV R k = (x, 0) := by unfold findV; rw [h]
set_option maxRecDepth 100000 in
set_option maxHeartbeats 4000000 in
theorem find_any {w : World} {sb mp : Nat} {vb : Value} {Bs : List Bl} {D : DataW (Option Nat)} {t : Int} {R0 : Row Id} (h : ShIs w sb mp vb Bs D t) (hT : Tidy Bs D t R0) (hlen : R0.length ≤ 100000) (k0 : Int) :
    Calls Tryd.prog 58 #[.pointer (some ⟨sb, 0, none⟩), .int .i64 k0] w (FindPost R0 k0 w) := by
  obtain ⟨hrow, _, hcnt, hall, _, _⟩ := hT
  obtain ⟨Av, cv, rfl, hnc0, hcm0⟩ := (Rd.of_own h.row).form
  unfold maxLen at hcm0
  have HS := Lib.hid (fun W (hW : Below w.heap.size w W) => h.below hW)
  have hsb : sb < w.heap.size := kind_lt (kind_cell h.cell)
  obtain ⟨W0, hW0⟩ : ∃ W, w.alloc (.cells #[.int .i64 0, .int .i64 0, .int .i64 0] 26) = W := ⟨_, rfl⟩
  have hb0 : Below w.heap.size w W0 := by rw [← hW0]; exact (Below.refl _ w).alloc (Nat.le_refl _) _
  have hx0 : W0.heap[w.heap.size]? = some (.cells #[.int .i64 0, .int .i64 0, .int .i64 0] 26 (0, 0)) := by rw [← hW0]; exact heap_alloc_new w _
  have c0 : W0.cell? ⟨sb, 0, none⟩ = some (.slice Av Bs.length cv) := cell_of_row _ _ 0 _ _ _ (h.below hb0).cell
  have c2 : W0.cell? ⟨sb, 2, none⟩ = some (.int .i64 t) := cell_of_row _ _ 2 _ _ _ (h.below hb0).cell
  have f0 : ∀ i, W0.frozen? ⟨w.heap.size, i, none⟩ = false := fun i => by simp [World.frozen?, hx0]
  have q0 : W0.cell? ⟨w.heap.size, 0, none⟩ = some (.int .i64 0) := cell_of_row _ _ 0 _ _ _ hx0
  have q1 : W0.cell? ⟨w.heap.size, 1, none⟩ = some (.int .i64 0) := cell_of_row _ _ 1 _ _ _ hx0
  have q2 : W0.cell? ⟨w.heap.size, 2, none⟩ = some (.int .i64 0) := cell_of_row _ _ 2 _ _ _ hx0
  have c0x : (w.alloc (.cells #[.int .i64 0, .int .i64 0, .int .i64 0] 26)).cell? ⟨sb, 0, none⟩ = some (.slice Av Bs.length cv) := by rw [hW0]; exact c0
  have c2x : (w.alloc (.cells #[.int .i64 0, .int .i64 0, .int .i64 0] 26)).cell? ⟨sb, 2, none⟩ = some (.int .i64 t) := by rw [hW0]; exact c2
  have f0x : ∀ i, (w.alloc (.cells #[.int .i64 0, .int .i64 0, .int .i64 0] 26)).frozen? ⟨w.heap.size, i, none⟩ = false := by rw [hW0]; exact f0
  have q0x : (w.alloc (.cells #[.int .i64 0, .int .i64 0, .int .i64 0] 26)).cell? ⟨w.heap.size, 0, none⟩ = some (.int .i64 0) := by rw [hW0]; exact q0
  have q1x : (w.alloc (.cells #[.int .i64 0, .int .i64 0, .int .i64 0] 26)).cell? ⟨w.heap.size, 1, none⟩ = some (.int .i64 0) := by rw [hW0]; exact q1
  have q2x : (w.alloc (.cells #[.int .i64 0, .int .i64 0, .int .i64 0] 26)).cell? ⟨w.heap.size, 2, none⟩ = some (.int .i64 0) := by rw [hW0]; exact q2
  clear c0 c2 f0 q0 q1 q2
  have HX0 := Lib.hid hx0
  have HB0 := Lib.hid hb0
  have HW0 := Lib.hid hW0
  have ht := cntR_le R0
  have hbelow : ∀ W : World, Below w.heap.size w W → Below w.heap.size w (((W.setCell ⟨w.heap.size, 0, none⟩ (.int .i64 0)).setCell ⟨w.heap.size, 1, none⟩ (.int .i64 0)).setCell ⟨w.heap.size, 2, none⟩ (.int .i64 0)) := fun W hW =>
    ((hW.setCell (p := ⟨w.heap.size, 0, none⟩) (Nat.le_refl _) _).setCell (p := ⟨w.heap.size, 1, none⟩) (Nat.le_refl _) _).setCell (p := ⟨w.heap.size, 2, none⟩) (Nat.le_refl _) _
  have HBE := Lib.hid hbelow
  by_cases hk : k0 < 0
  · have HV := Lib.hid (findV_none (R := R0) (k := k0) (by rw [if_pos hk]))
    clear h hb0 hx0 hW0 hbelow
    go_enter Tryd.func58, Tryd.ntmps58
    go_wp2
    try rw [HW0.out]
    refine bodyPost_ret (results_cell_row1 rfl _ _ w.heap.size 26 #[.int .i64 0, .int .i64 0, .int .i64 0] (0, 0) _ rfl HX0.out Tryd.underlying26 rfl (by kernel_rfl)) rfl ?_
    unfold FindPost
    rw [HV.out]
    exact ⟨rfl, HB0.out⟩
  · by_cases hkt : t ≤ k0
    · have HV := Lib.hid (findV_none (R := R0) (k := k0) (by rw [if_neg hk]; exact findR_none _ _ (by omega)))
      clear h hb0 hx0 hW0 hbelow
      go_enter Tryd.func58, Tryd.ntmps58
      go_wp2
      try rw [HW0.out]
      refine bodyPost_ret (results_cell_row1 rfl _ _ w.heap.size 26 #[.int .i64 0, .int .i64 0, .int .i64 0] (0, 0) _ rfl HX0.out Tryd.underlying26 rfl (by kernel_rfl)) rfl ?_
      unfold FindPost
      rw [HV.out]
      exact ⟨rfl, HB0.out⟩
    · obtain ⟨kn, rfl⟩ : ∃ kn : Nat, k0 = (kn : Int) := ⟨k0.toNat, by omega⟩
      have hkn : kn < cntR R0 := by omega
      have HVS := Lib.hid (fun (x : Id) (hx : findR R0 kn = some x) => findV_some (R := R0) (k := (kn : Int)) (by rw [if_neg hk]; exact hx))
      have HVN := Lib.hid (fun (hx : findR R0 kn = none) => findV_none (R := R0) (k := (kn : Int)) (by rw [if_neg hk]; exact hx))
      have HROW := Lib.hid hrow
      obtain ⟨bx, hbx⟩ : ∃ z, w.heap.size = z := ⟨_, rfl⟩
      have HCNT := Lib.hid hcnt
      have HBX := Lib.hid hbx
      have HRR := Lib.hid hrow
      have hk1 : (kn : Int) < t := by omega
      have hk2 : kn ≤ 100000 := by omega
      clear h hb0 hx0 hW0 hbelow hcnt hall ht hbx hrow
      go_enter Tryd.func58, Tryd.ntmps58
      go_wp2
      rw [HW0.out]
      rw [HBX.out]
      rw [HBX.out] at HX0
      clear q0x q1x q2x f0x hk1 c0x c2x hk hkt hkn
      go_loopw [1, 26] (fun kv i wr => FiRel Bs kn bx w kv i wr) (fun _ i _ => Bs.length - (intOf i).toNat)
      case atStart => exact ⟨0, kn, Nat.zero_le _, Nat.le_refl _, rfl, rfl, by rw [List.drop_zero], HX0.out, HB0.out⟩
      case round =>
        obtain ⟨k, m, hk, hmk, rfl, rfl, hf, hx, hb⟩ := hrel
        obtain ⟨wo, rfl⟩ : ∃ wo : World, wo = wr := ⟨_, rfl⟩
        have HF := Lib.hid hf
        have HX := Lib.hid hx
        have HBo := Lib.hid hb
        clear hf hx hb
        by_cases hlt : k < Bs.length
        · obtain ⟨g, cap, e1, c1, _⟩ := (HS.out wo HBo.out).at hlt
          injection e1 with e1 _ e3
          subst e1; subst e3
          have hbm : Bs[k] ∈ Bs := List.getElem_mem hlt
          have hdr : rowOf (Bs.drop k) = (Bs[k]).R ++ rowOf (Bs.drop (k + 1)) := by rw [← rowOf_cons, List.getElem_cons_drop]
          have hbl := fun W (hW : Below w.heap.size w W) => (HS.out W hW).bl _ hbm
          have hn := HCNT.out _ hbm
          have hRl : (Bs[k]).R.length ≤ R0.length := by
            have e : rowOf Bs = rowOf (Bs.take k) ++ ((Bs[k]).R ++ rowOf (Bs.drop (k + 1))) := by
              rw [← rowOf_cons, List.getElem_cons_drop, ← rowOf_app, List.take_append_drop]
            rw [← HRR.out, e]
            simp only [List.length_append]
            omega
          obtain ⟨b, hbe⟩ : ∃ b, Bs[k] = b := ⟨_, rfl⟩
          rw [hbe] at c1 hdr hbl hn hRl
          have hadl : b.ad < w.heap.size := kind_lt (kind_cell (hbl w (Below.refl _ _)).cell)
          obtain ⟨ad, vi, vs, n, R⟩ := b
          dsimp only at c1 hdr hadl hn hRl
          subst hn
          obtain ⟨Ai, ci, hvi, _, hcm⟩ := (Rd.of_own (hbl w (Below.refl _ _)).ids).form
          obtain ⟨As, cs, hvs, _, hcm2⟩ := (Rd.of_own (hbl w (Below.refl _ _)).sn).form
          dsimp only at hvi hvs
          subst hvi; subst hvs
          have HBL := Lib.hid hbl
          have c2 : wo.cell? ⟨ad, 0, none⟩ = some (.slice Ai R.length ci) := cell_of_row _ _ 0 _ _ _ (HBL.out wo HBo.out).cell
          have c3 : wo.cell? ⟨ad, 2, none⟩ = some (.int .i64 (cntR R)) := cell_of_row _ _ 2 _ _ _ (HBL.out wo HBo.out).cell
          have i1 : (0 : Int) ≤ (k : Int) := by omega
          have i2 : (k : Int) < (Bs.length : Int) := by omega
          have hcR := cntR_le R
          clear hbm hbl hbe hcm hcm2
          by_cases hge : cntR R ≤ m
          · have HF2 := Lib.hid (show findR (rowOf (Bs.drop (k + 1))) (m - cntR R) = findR (rowOf Bs) kn from by rw [← findR_app_ge R _ m hge, ← hdr]; exact HF.out)
            have j1 : ((cntR R : Nat) : Int) ≤ (m : Int) := by omega
            have j2 : IntKind.i64.wrap ((m : Int) - ((cntR R : Nat) : Int)) = ((m - cntR R : Nat) : Int) := by rw [IntWalk.i64_in _ (by omega)]; omega
            clear hdr
            go_wp2
            go_roundw
            case rel => exact ⟨k + 1, m - cntR R, by omega, by omega, by go_num, rfl, HF2.out, HX.out, HBo.out⟩
            case measure => simp [intOf]; omega
          · have HF2 := Lib.hid (show findR R m = findR (rowOf Bs) kn from by rw [← findR_app_lt R (rowOf (Bs.drop (k + 1))) m (by omega), ← hdr]; exact HF.out)
            have j1 : ¬ ((cntR R : Nat) : Int) ≤ (m : Int) := by omega
            have hlt2 : m < cntR R := by omega
            clear hdr
            go_wp2
            clear c1 c2 c3 j1 hge
            go_loopw [1, 47] (fun kv i wr => FjRel (rowOf Bs) R kn bx w kv i wr) (fun _ i _ => R.length - (intOf i).toNat)
            case atStart => exact ⟨0, m, Nat.zero_le _, hmk, rfl, rfl, by rw [List.drop_zero]; exact HF2.out, by rw [List.drop_zero]; exact hlt2, HX.out, HBo.out⟩
            case round =>
              obtain ⟨j, m2, hj, hm2, rfl, rfl, hf, hc, hx, hb⟩ := hrel
              obtain ⟨wq, rfl⟩ : ∃ wq : World, wq = wr := ⟨_, rfl⟩
              have HBj := Lib.hid hb
              have HXj := Lib.hid hx
              clear hb hx
              by_cases hjl : j < R.length
              · obtain ⟨b1, o1, rfl, hB1, hcell1⟩ := rd_at idC 3 (fun _ => rfl) (by decide) (show Rd wq w.heap.size 3 (.slice Ai (namesR R).length ci) (namesR R).length ((namesR R).flatMap idC) from by rw [names_len]; exact (Rd.of_own (HBL.out w (Below.refl _ _)).ids).below' HBj.out (Nat.le_refl _)) (show j < (namesR R).length by rw [names_len]; exact hjl)
                obtain ⟨b2, o2, rfl, hB2, hcell2⟩ := rd_at boC 1 (fun _ => rfl) (by decide) (show Rd wq w.heap.size 1 (.slice As (seenR R).length cs) (seenR R).length ((seenR R).flatMap boC) from by rw [seenR_len]; exact (Rd.of_own (HBL.out w (Below.refl _ _)).sn).below' HBj.out (Nat.le_refl _)) (show j < (seenR R).length by rw [seenR_len]; exact hjl)
                have hsn : (seenR R)[j]'(by rw [seenR_len]; exact hjl) = (R[j]).2 := by simp [seenR]
                have hnm : (namesR R)[j]'(by rw [names_len]; exact hjl) = (R[j]).1 := by simp [namesR]
                rw [hnm] at hcell1
                rw [hsn] at hcell2
                rw [← List.getElem_cons_drop hjl] at hf hc
                rw [cntR_cons] at hc
                obtain ⟨⟨x, q⟩, hxe⟩ : ∃ p, R[j] = p := ⟨_, rfl⟩
                rw [hxe] at hcell1 hcell2 hf hc
                dsimp only at hcell1 hcell2 hc
                have HBq1 : Below w.heap.size w (wq.alloc (.cells #[.int .i64 x.s.T, .int .i64 x.s.R, .int .i64 x.I] 26)) := HBj.out.alloc HBj.out.size _
                have d0 : wq.cell? ⟨b1, o1 + j * 3, none⟩ = some (.int .i64 x.s.T) := hcell1 0 _ rfl
                have d1 : wq.cell? ⟨b1, o1 + j * 3 + 1, none⟩ = some (.int .i64 x.s.R) := hcell1 1 _ rfl
                have d2 : wq.cell? ⟨b1, o1 + j * 3 + 2, none⟩ = some (.int .i64 x.I) := hcell1 2 _ rfl
                have hwb : b2 < wq.heap.size := Nat.lt_of_lt_of_le hB2 HBj.out.size
                have e0 : (wq.alloc (.cells #[.int .i64 x.s.T, .int .i64 x.s.R, .int .i64 x.I] 26)).cell? ⟨b2, o2 + j, none⟩ = some (.bool q) := by
                  rw [World.cell?_of_block (Below.heap_alloc _ _ _ hwb)]
                  have := hcell2 0 _ rfl
                  simpa using this
                have e1 : (wq.alloc (.cells #[.int .i64 x.s.T, .int .i64 x.s.R, .int .i64 x.I] 26)).cell? ⟨ad, 1, none⟩ = some (.slice (some ⟨b2, o2, none⟩) R.length cs) := cell_of_row _ _ 1 _ _ _ (HBL.out _ HBq1).cell
                have i3 : (0 : Int) ≤ (j : Int) := by omega
                have i4 : (j : Int) < (R.length : Int) := by omega
                have HB1 := Lib.hid HBq1
                have hbxl : bx < wq.heap.size := (Array.getElem?_eq_some_iff.1 HXj.out).1
                have hx1 : (wq.alloc (.cells #[.int .i64 x.s.T, .int .i64 x.s.R, .int .i64 x.I] 26)).heap[bx]? = some (.cells #[.int .i64 0, .int .i64 0, .int .i64 0] 26 (0, 0)) := (Below.heap_alloc _ _ _ hbxl).trans HXj.out
                have HX1 := Lib.hid hx1
                cases q
                · have HF3 := Lib.hid (show findR (R.drop (j + 1)) m2 = findR (rowOf Bs) kn from hf)
                  have HC3 := Lib.hid (show m2 < cntR (R.drop (j + 1)) from by simpa using hc)
                  clear hf hc hcell1 hcell2 hsn hnm hxe HBq1 hx1
                  go_wp2
                  go_roundw
                  case rel => exact ⟨j + 1, m2, by omega, hm2, by go_num, rfl, HF3.out, HC3.out, HX1.out, HB1.out⟩
                  case measure => simp [intOf]; omega
                · by_cases hm0 : m2 = 0
                  · subst hm0
                    have HV := Lib.hid (HVS.out x (by rw [← HROW.out, ← hf]; rfl))
                    have hbox := heap_alloc_new wq (.cells #[.int .i64 x.s.T, .int .i64 x.s.R, .int .i64 x.I] 26)
                    have g0 : (wq.alloc (.cells #[.int .i64 x.s.T, .int .i64 x.s.R, .int .i64 x.I] 26)).cell? ⟨wq.heap.size, 0, none⟩ = some (.int .i64 x.s.T) := cell_of_row _ _ 0 _ _ _ hbox
                    have g1 : (wq.alloc (.cells #[.int .i64 x.s.T, .int .i64 x.s.R, .int .i64 x.I] 26)).cell? ⟨wq.heap.size, 1, none⟩ = some (.int .i64 x.s.R) := cell_of_row _ _ 1 _ _ _ hbox
                    have g2 : (wq.alloc (.cells #[.int .i64 x.s.T, .int .i64 x.s.R, .int .i64 x.I] 26)).cell? ⟨wq.heap.size, 2, none⟩ = some (.int .i64 x.I) := cell_of_row _ _ 2 _ _ _ hbox
                    have z0 : (wq.alloc (.cells #[.int .i64 x.s.T, .int .i64 x.s.R, .int .i64 x.I] 26)).cell? ⟨bx, 0, none⟩ = some (.int .i64 0) := cell_of_row _ _ 0 _ _ _ hx1
                    have z1 : (wq.alloc (.cells #[.int .i64 x.s.T, .int .i64 x.s.R, .int .i64 x.I] 26)).cell? ⟨bx, 1, none⟩ = some (.int .i64 0) := cell_of_row _ _ 1 _ _ _ hx1
                    have z2 : (wq.alloc (.cells #[.int .i64 x.s.T, .int .i64 x.s.R, .int .i64 x.I] 26)).cell? ⟨bx, 2, none⟩ = some (.int .i64 0) := cell_of_row _ _ 2 _ _ _ hx1
                    have y0 : wq.cell? ⟨bx, 0, none⟩ = some (.int .i64 0) := cell_of_row _ _ 0 _ _ _ HXj.out
                    have y1 : wq.cell? ⟨bx, 1, none⟩ = some (.int .i64 0) := cell_of_row _ _ 1 _ _ _ HXj.out
                    have y2 : wq.cell? ⟨bx, 2, none⟩ = some (.int .i64 0) := cell_of_row _ _ 2 _ _ _ HXj.out
                    have zf : ∀ i, wq.frozen? ⟨bx, i, none⟩ = false := fun i => by simp [World.frozen?, HXj.out]
                    have zf2 : ∀ i, (wq.alloc (.cells #[.int .i64 x.s.T, .int .i64 x.s.R, .int .i64 x.I] 26)).frozen? ⟨bx, i, none⟩ = false := fun i => by simp [World.frozen?, hx1]
                    have hE := Lib.hid ((Below.heap_alloc (((wq.setCell ⟨bx, 0, none⟩ (.int .i64 x.s.T)).setCell ⟨bx, 1, none⟩ (.int .i64 x.s.R)).setCell ⟨bx, 2, none⟩ (.int .i64 x.I)) (.cells #[.int .i64 x.s.T, .int .i64 x.s.R, .int .i64 x.I] 26) bx (by simpa [World.setCell] using hbxl)).trans (set3_heapS (v := .int .i64 x.s.T) (u := .int .i64 x.s.R) (z := .int .i64 x.I) HXj.out))
                    clear hf hc hcell1 hcell2 hsn hnm hxe HBq1 hx1 hbox
                    go_wp2
                    refine bodyPost_ret (results_cell_row1 rfl _ _ bx 26 #[.int .i64 x.s.T, .int .i64 x.s.R, .int .i64 x.I] (0, 0) _ rfl hE.out Tryd.underlying26 rfl (by kernel_rfl)) rfl ?_
                    unfold FindPost
                    rw [HV.out]
                    have hle : w.heap.size ≤ bx := Nat.le_of_eq HBX.out
                    exact ⟨rfl, (((HBj.out.setCell (p := ⟨bx, 0, none⟩) hle _).setCell (p := ⟨bx, 1, none⟩) hle _).setCell (p := ⟨bx, 2, none⟩) hle _).alloc (by have := HBj.out.size; simpa [World.setCell] using this) _⟩
                  · obtain ⟨m3, rfl⟩ : ∃ m3, m2 = m3 + 1 := ⟨m2 - 1, by omega⟩
                    have HF3 := Lib.hid (show findR (R.drop (j + 1)) m3 = findR (rowOf Bs) kn from hf)
                    have HC3 := Lib.hid (show m3 < cntR (R.drop (j + 1)) from by simp at hc; omega)
                    have n1 : ¬ (((m3 + 1 : Nat) : Int) = 0) := by omega
                    have n2 : IntKind.i64.wrap (((m3 + 1 : Nat) : Int) - 1) = (m3 : Int) := by rw [IntWalk.i64_in _ (by omega)]; omega
                    clear hf hc hcell1 hcell2 hsn hnm hxe HBq1 hx1
                    go_wp2
                    go_roundw
                    case rel => exact ⟨j + 1, m3, by omega, by omega, by go_num, by first | rfl | (congr 1; omega) | go_num, HF3.out, HC3.out, HX1.out, HB1.out⟩
                    case measure => simp [intOf]; omega
              · obtain rfl : j = R.length := by omega
                rw [List.drop_length] at hc
                simp [cntR] at hc
        · obtain rfl : k = Bs.length := by omega
          have HV := Lib.hid (HVN.out (by rw [← HROW.out, ← HF.out, List.drop_length]; rfl))
          have z0 : wo.cell? ⟨bx, 0, none⟩ = some (.int .i64 0) := cell_of_row _ _ 0 _ _ _ HX.out
          have z1 : wo.cell? ⟨bx, 1, none⟩ = some (.int .i64 0) := cell_of_row _ _ 1 _ _ _ HX.out
          have z2 : wo.cell? ⟨bx, 2, none⟩ = some (.int .i64 0) := cell_of_row _ _ 2 _ _ _ HX.out
          have zf : ∀ i, wo.frozen? ⟨bx, i, none⟩ = false := fun i => by simp [World.frozen?, HX.out]
          have hE := Lib.hid (set3_heapS (v := .int .i64 0) (u := .int .i64 0) (z := .int .i64 0) HX.out)
          go_wp2
          refine bodyPost_ret (results_cell_row1 rfl _ _ bx 26 #[.int .i64 0, .int .i64 0, .int .i64 0] (0, 0) _ rfl (by first | exact hE.out | exact HX.out) Tryd.underlying26 rfl (by kernel_rfl)) rfl ?_
          unfold FindPost
          rw [HV.out]
          have hle : w.heap.size ≤ bx := Nat.le_of_eq HBX.out
          first
            | exact ⟨rfl, ((HBo.out.setCell (p := ⟨bx, 0, none⟩) hle _).setCell (p := ⟨bx, 1, none⟩) hle _).setCell (p := ⟨bx, 2, none⟩) hle _⟩
            | exact ⟨rfl, HBo.out⟩
end Go.Proofs.YtphapjbfaomblaaDoor
/- The shelf's Place. -/
namespace Go.Proofs.YtphapjbfaomblaaDoor
open Go Go.RowKit Go.Maps
theorem inF_none {Bs : List Bl} {x : Id} (h : x ∉ namesR (rowOf Bs)) : inF Bs x = none := by
  unfold inF
  rw [Option.map_eq_none_iff, List.find?_eq_none]
  intro b hb hx
  refine h ?_
  obtain ⟨s, t, rfl⟩ := List.append_of_mem hb
  rw [rowOf_app, rowOf_cons, names_app, names_app]
  simp only [decide_eq_true_eq] at hx
  simp [hx]
theorem inF_some {Bs : List Bl} {x : Id} (h : x ∈ namesR (rowOf Bs)) : ∃ pre b post, Bs = pre ++ b :: post ∧ x ∈ namesR b.R ∧ x ∉ namesR (rowOf pre) ∧ inF Bs x = some (some b.ad) := by
  cases e : Bs.find? (fun b => decide (x ∈ namesR b.R)) with
  | none =>
    rw [List.find?_eq_none] at e
    exfalso
    have : ∀ Cs : List Bl, (∀ b ∈ Cs, ¬ decide (x ∈ namesR b.R) = true) → x ∉ namesR (rowOf Cs) := by
      intro Cs
      induction Cs with
      | nil => intro _ hx; simp [rowOf, namesR] at hx
      | cons c Cs ih =>
        intro hc hx
        rw [rowOf_cons, names_app] at hx
        rcases List.mem_append.1 hx with hx | hx
        · exact hc c (by simp) (decide_eq_true hx)
        · exact ih (fun b hb => hc b (by simp [hb])) hx
    exact this Bs e h
  | some b =>
    obtain ⟨h1, pre, post, h2, h3⟩ := List.find?_eq_some_iff_append.1 e
    refine ⟨pre, b, post, h2, of_decide_eq_true h1, ?_, by unfold inF; rw [e]; rfl⟩
    have : ∀ Cs : List Bl, (∀ b ∈ Cs, (!decide (x ∈ namesR b.R)) = true) → x ∉ namesR (rowOf Cs) := by
      intro Cs
      induction Cs with
      | nil => intro _ hx; simp [rowOf, namesR] at hx
      | cons c Cs ih =>
        intro hc hx
        rw [rowOf_cons, names_app] at hx
        rcases List.mem_append.1 hx with hx | hx
        · have := hc c (by simp)
          simp [hx] at this
        · exact ih (fun b hb => hc b (by simp [hb])) hx
    exact this pre h3
def placeV (R : Row Id) (x : Id) : Int × Int × Int := if x ∈ namesR R then (ixR R x, cntR (R.take (ixR R x)), 0) else (0, 0, 111)
def PlacePost (R : Row Id) (x : Id) (w : World) (e : Ending) (w' : World) : Prop := e = .returned (.tuple #[.int .i64 (placeV R x).1, .int .i64 (placeV R x).2.1, .int .i64 (placeV R x).2.2]) ∧ Below w.heap.size w w'
def PlRel (pre : List Bl) (W0 : World) (al se i : Value) (wr : World) : Prop :=
  ∃ k : Nat, k ≤ pre.length ∧ i = .int .i64 k ∧ al = .int .i64 ((rowOf (pre.take k)).length : Nat) ∧ se = .int .i64 (cntR (rowOf (pre.take k)) : Nat) ∧ Below W0.heap.size W0 wr
def PmRel (c : Nat) (R : Row Id) (kx : Nat) (W0 : World) (se i : Value) (wr : World) : Prop :=
  ∃ j : Nat, j ≤ kx ∧ i = .int .i64 j ∧ se = .int .i64 ((c + cntR (R.take j) : Nat) : Int) ∧ Below W0.heap.size W0 wr
theorem info63 : (Tryd.prog.info? 132).map (fun i => (i.zero, i.size, i.bytes)) = some (some (.agg #[.slice none 0 0, .slice none 0 0, .int .i64 0]), 3, 56) := by kernel_rfl
theorem eql_same (a : Nat) (w : World) : (binOp .eql 129 (.pointer (some ⟨a, 0, none⟩)) (.pointer (some ⟨a, 0, none⟩))).run Tryd.prog w = .ok (.bool true) w := by
  obtain ⟨i0, hi, _, _, _⟩ := info_parts info63
  exact run_eql_ptr_same w _ Tryd.underlying129 hi
theorem eql_other {a b : Nat} {w : World} {ca cb : Array Value} {ta tb : TypeId} (hne : a ≠ b) (ha : w.heap[a]? = some (.cells ca ta (0, 0))) (hb : w.heap[b]? = some (.cells cb tb (0, 0))) : (binOp .eql 129 (.pointer (some ⟨a, 0, none⟩)) (.pointer (some ⟨b, 0, none⟩))).run Tryd.prog w = .ok (.bool false) w := by
  obtain ⟨i0, hi, _, hz, _⟩ := info_parts info63
  exact run_eql_ptr_other w Tryd.underlying129 hi (by rw [hz]; decide) (fun e => hne (by injection e)) ha hb
theorem rows_le (A B : List Bl) : (rowOf A).length ≤ (rowOf (A ++ B)).length := by rw [rowOf_app, List.length_append]; omega
set_option maxRecDepth 100000 in
set_option maxHeartbeats 4000000 in
theorem place_any {w : World} {sb mp : Nat} {vb : Value} {Bs : List Bl} {D : DataW (Option Nat)} {t : Int} {R0 : Row Id} (h : ShIs w sb mp vb Bs D t) (hT : Tidy Bs D t R0) (hlen : R0.length ≤ 100000) (x : Id) :
    Calls Tryd.prog 67 #[.pointer (some ⟨sb, 0, none⟩), idV x] w (PlacePost R0 x w) := by
  obtain ⟨hrow, hnd, hcnt, hall, _, hfm⟩ := hT
  obtain ⟨Av, cv, rfl, hnc0, hcm0⟩ := (Rd.of_own h.row).form
  unfold maxLen at hcm0
  obtain ⟨W0, hW0⟩ : ∃ W, w.alloc (.cells #[.int .i64 x.s.T, .int .i64 x.s.R, .int .i64 x.I] 26) = W := ⟨_, rfl⟩
  have hb0 : Below w.heap.size w W0 := by rw [← hW0]; exact (Below.refl _ w).alloc (Nat.le_refl _) _
  have hx0 : W0.heap[w.heap.size]? = some (.cells #[.int .i64 x.s.T, .int .i64 x.s.R, .int .i64 x.I] 26 (0, 0)) := by rw [← hW0]; exact heap_alloc_new w _
  have h0 := h.below hb0
  have HS := Lib.hid (fun W (hW : Below W0.heap.size W0 W) => h0.below hW)
  have hbxl : w.heap.size < W0.heap.size := (Array.getElem?_eq_some_iff.1 hx0).1
  have hsb : sb < W0.heap.size := kind_lt (kind_cell h0.cell)
  obtain ⟨bx, hbx⟩ : ∃ z, w.heap.size = z := ⟨_, rfl⟩
  rw [hbx] at hx0 hbxl
  have c1 : W0.cell? ⟨sb, 1, none⟩ = some (.map (some mp)) := cell_of_row _ _ 1 _ _ _ h0.cell
  have g0 : W0.cell? ⟨bx, 0, none⟩ = some (.int .i64 x.s.T) := cell_of_row _ _ 0 _ _ _ hx0
  have g1 : W0.cell? ⟨bx, 1, none⟩ = some (.int .i64 x.s.R) := cell_of_row _ _ 1 _ _ _ hx0
  have g2 : W0.cell? ⟨bx, 2, none⟩ = some (.int .i64 x.I) := cell_of_row _ _ 2 _ _ _ hx0
  have hlk := (h0.below (Below.refl _ W0).drew).look hfm x
  have hlk' := h0.look hfm x
  have HB0 := Lib.hid hb0
  have HW0 := Lib.hid hW0
  have HBX := Lib.hid hbx
  have HX0 := Lib.hid hx0
  unfold idV at hlk hlk'
  by_cases hx : x ∈ namesR R0
  · obtain ⟨pre, b, post, hBs, hxb, hxp, hin⟩ := inF_some (hrow.symm ▸ hx)
    rw [hin] at hlk hlk'
    dsimp only [Option.getD_some, ptV] at hlk hlk'
    have hxa : R0 = rowOf pre ++ (b.R ++ rowOf post) := by rw [← hrow, hBs, rowOf_app, rowOf_cons]
    have hkx := ixR_lt.2 hxb
    have hixR : ixR R0 x = (rowOf pre).length + ixR b.R x := by
      rw [hxa, ixR_app_right hxp (by rw [names_app]; exact List.mem_append_left _ hxb), ixR_app_left hxb]
    have hctR : cntR (R0.take (ixR R0 x)) = cntR (rowOf pre) + cntR (b.R.take (ixR b.R x)) := by
      rw [hixR, hxa, List.take_append, List.take_of_length_le (by omega), Nat.add_sub_cancel_left, List.take_append_of_le_length (by omega), cntR_app]
    have HV := Lib.hid (show placeV R0 x = ((((rowOf pre).length + ixR b.R x : Nat) : Int), ((cntR (rowOf pre) + cntR (b.R.take (ixR b.R x)) : Nat) : Int), 0) from by unfold placeV; rw [if_pos hx, hctR, hixR])
    have hbm : b ∈ Bs := by rw [hBs]; simp
    have hlenB : Bs.length = pre.length + 1 + post.length := by rw [hBs]; simp; omega
    have hl1 : (rowOf pre).length + b.R.length ≤ 100000 := by
      have := congrArg List.length hxa
      simp only [List.length_append] at this
      omega
    have hgp : ∀ (k : Nat) (hk : k < pre.length) (hk' : k < Bs.length), Bs[k] = pre[k] := fun k hk hk' => by
      have : Bs[k]? = pre[k]? := by rw [hBs, List.getElem?_append_left hk]
      rw [List.getElem?_eq_getElem hk', List.getElem?_eq_getElem hk] at this
      exact Option.some.inj this
    have hgb : ∀ (hk' : pre.length < Bs.length), Bs[pre.length] = b := fun hk' => by
      have : Bs[pre.length]? = some b := by rw [hBs]; simp
      rw [List.getElem?_eq_getElem hk'] at this
      exact Option.some.inj this
    have hapt : ∀ (k : Nat) (hk : k < pre.length), (pre[k]).ad ≠ b.ad := fun k hk => by
      have := h0.apart
      rw [hBs] at this
      exact ((List.pairwise_append.1 this).2.2 _ (List.getElem_mem hk) b (by simp)).1
    have hbl := fun W (hW : Below W0.heap.size W0 W) => (HS.out W hW).bl _ hbm
    have hcnt2 : ∀ (k : Nat) (hk : k < pre.length), (pre[k]).n = cntR (pre[k]).R := fun k hk => hcnt _ (by rw [hBs]; simp)
    have hpbl : ∀ (k : Nat) (hk : k < pre.length) W, Below W0.heap.size W0 W → BlIs W (pre[k]) := fun k hk W hW => (HS.out W hW).bl _ (by rw [hBs]; simp)
    obtain ⟨ad, vi, vs, n, R⟩ := b
    dsimp only at hkx hixR hctR HV hl1 hgb hapt hbl hlk hlk'
    obtain ⟨Ai, ci, hvi, hci1, hci2⟩ := (Rd.of_own (hbl W0 (Below.refl _ _)).ids).form
    obtain ⟨As, cs, hvs, hcs1, hcs2⟩ := (Rd.of_own (hbl W0 (Below.refl _ _)).sn).form
    dsimp only at hvi hvs hci1 hcs1
    subst hvi; subst hvs
    have c0 : W0.cell? ⟨sb, 0, none⟩ = some (.slice Av Bs.length cv) := cell_of_row _ _ 0 _ _ _ h0.cell
    have HBL := Lib.hid hbl
    have HGP := Lib.hid hgp
    have HGB := Lib.hid hgb
    have HAP := Lib.hid hapt
    have HCN := Lib.hid hcnt2
    have HPB := Lib.hid hpbl
    have HXB := Lib.hid hxb
    obtain ⟨kx, hkxe⟩ : ∃ kx, ixR R x = kx := ⟨_, rfl⟩
    rw [hkxe] at hkx HV
    have HKX := Lib.hid hkxe
    have HX := Lib.hid (fun W (hW : Below W0.heap.size W0 W) => (show (W.cell? ⟨bx, 0, none⟩ = some (.int .i64 x.s.T) ∧ W.cell? ⟨bx, 1, none⟩ = some (.int .i64 x.s.R) ∧ W.cell? ⟨bx, 2, none⟩ = some (.int .i64 x.I)) ∧ W.cell? ⟨ad, 0, none⟩ = some (.slice Ai R.length ci) from
      ⟨⟨(hW.cell (p := ⟨bx, 0, none⟩) hbxl).trans g0, (hW.cell (p := ⟨bx, 1, none⟩) hbxl).trans g1, (hW.cell (p := ⟨bx, 2, none⟩) hbxl).trans g2⟩, cell_of_row _ _ 0 _ _ _ (hbl W hW).cell⟩))
    obtain ⟨np, hnp⟩ : ∃ np, pre.length = np := ⟨_, rfl⟩
    obtain ⟨lp, hlp⟩ : ∃ z, (rowOf pre).length = z := ⟨_, rfl⟩
    obtain ⟨cp, hcp⟩ : ∃ z, cntR (rowOf pre) = z := ⟨_, rfl⟩
    have hcple : cp ≤ lp := by rw [← hcp, ← hlp]; exact cntR_le _
    rw [hlp] at hl1 HV
    rw [hcp] at HV
    have HLP := Lib.hid hlp
    have HCP := Lib.hid hcp
    have HNP := Lib.hid hnp
    have HBSL := Lib.hid hlenB
    clear h hb0 hx0 hW0 hbx h0 hrow hnd hcnt hall hfm hin hx hxa hixR hctR hbm hgp hgb hapt hbl hcnt2 hpbl hxb hxp hkxe hlp hcp hnp hBs hlenB
    unfold idV
    go_enter Tryd.func67, Tryd.ntmps67
    go_wp2
    rw [HW0.out, HBX.out]
    go_region
    go_wp2
    clear hlk hlk' c1 g0 g1 g2 c0
    go_loopw [4, 5, 26] (fun al se i wr => PlRel pre W0 al se i wr) (fun _ _ i _ => Bs.length - (intOf i).toNat)
    case atStart => exact ⟨0, Nat.zero_le _, rfl, rfl, rfl, (Below.refl _ W0).drew⟩
    case round =>
      obtain ⟨k, hk, rfl, rfl, rfl, hb⟩ := hrel
      obtain ⟨wo, rfl⟩ : ∃ wo : World, wo = wr := ⟨_, rfl⟩
      have HBo := Lib.hid hb
      clear hb
      have hkB : k < Bs.length := by have := HBSL.out; omega
      obtain ⟨g, cap, e1, c1, _⟩ := (HS.out wo HBo.out).at hkB
      injection e1 with e1 _ e3
      subst e1; subst e3
      have i1 : (0 : Int) ≤ (k : Int) := by omega
      have i2 : (k : Int) < (Bs.length : Int) := by omega
      by_cases hlt : k < pre.length
      · have hne := HAP.out k hlt
        have hpb := HPB.out k hlt wo HBo.out
        have hpn := HCN.out k hlt
        have htk : rowOf (pre.take (k + 1)) = rowOf (pre.take k) ++ (pre[k]).R := by rw [List.take_succ_eq_append_getElem hlt, rowOf_app]; simp [rowOf]
        have hple : (rowOf (pre.take (k + 1))).length ≤ lp := by
          rw [← HLP.out]
          have := rows_le (pre.take (k + 1)) (pre.drop (k + 1))
          rwa [List.take_append_drop] at this
        rw [HGP.out k hlt hkB] at c1
        obtain ⟨⟨ad2, vi2, vs2, n2, R2⟩, hpe⟩ : ∃ p, pre[k] = p := ⟨_, rfl⟩
        rw [hpe] at c1 hne hpb hpn htk
        dsimp only at c1 hne hpn
        subst hpn
        obtain ⟨A2, ci2, hvi2, _, _⟩ := (Rd.of_own hpb.ids).form
        dsimp only at hvi2
        subst hvi2
        have d0 : wo.cell? ⟨ad2, 0, none⟩ = some (.slice A2 R2.length ci2) := cell_of_row _ _ 0 _ _ _ hpb.cell
        have heq := eql_other hne hpb.cell (HBL.out wo HBo.out).cell
        have d2 : wo.cell? ⟨ad2, 2, none⟩ = some (.int .i64 (cntR R2)) := cell_of_row _ _ 2 _ _ _ hpb.cell
        have hcle := cntR_le (rowOf (pre.take (k + 1)))
        have hl2 : (rowOf (pre.take (k + 1))).length = (rowOf (pre.take k)).length + R2.length := by rw [htk, List.length_append]
        have hc2 : cntR (rowOf (pre.take (k + 1))) = cntR (rowOf (pre.take k)) + cntR R2 := by rw [htk, cntR_app]
        obtain ⟨la, hla⟩ : ∃ z, (rowOf (pre.take k)).length = z := ⟨_, rfl⟩
        obtain ⟨ca, hca⟩ : ∃ z, cntR (rowOf (pre.take k)) = z := ⟨_, rfl⟩
        obtain ⟨lb, hlb⟩ : ∃ z, R2.length = z := ⟨_, rfl⟩
        obtain ⟨cb, hcb⟩ : ∃ z, cntR R2 = z := ⟨_, rfl⟩
        rw [hla, hlb] at hl2
        rw [hca, hcb] at hc2
        rw [hla, hca]
        rw [hlb] at d0
        rw [hcb] at d2
        have HL2 := Lib.hid hl2
        have HC2 := Lib.hid hc2
        have a1 : IntKind.i64.wrap ((la : Int) + (lb : Int)) = ((la + lb : Nat) : Int) := by rw [IntWalk.i64_in _ (by omega)]; omega
        have a2 : IntKind.i64.wrap ((ca : Int) + (cb : Int)) = ((ca + cb : Nat) : Int) := by rw [IntWalk.i64_in _ (by omega)]; omega
        clear hpb hpe htk hple hcle hl2 hc2 hla hca hlb hcb
        go_wp2
        go_roundw
        case rel => exact ⟨k + 1, by omega, by go_num, by rw [HL2.out]; go_num, by rw [HC2.out]; go_num, HBo.out⟩
        case measure => simp [intOf]; omega
      · obtain rfl : k = pre.length := by omega
        rw [HGB.out hkB] at c1
        dsimp only at c1
        rw [List.take_length, HLP.out, HCP.out]
        have HI := Lib.hid (fun W (hW : Below wo.heap.size wo W) => (show Calls Tryd.prog 77 #[.slice Ai R.length ci, idV x] W (fun e w' => (∃ r, e = .returned (.int .i64 r) ∧ AtIsS (namesR R) x r) ∧ Grows W w') from by
          have hB := HBo.out.trans (hW.mono HBo.out.size)
          exact index_any (namesR R) x Ai R.length ci W0.heap.size W ((Rd.of_own (HBL.out W0 (Below.refl _ _)).ids).below' hB (Nat.le_refl _)) hB.size))
        unfold idV at HI
        have HXo := Lib.hid (fun W (hW : Below wo.heap.size wo W) => HX.out W (HBo.out.trans (hW.mono HBo.out.size)))
        have k1 : Below wo.heap.size wo wo.drew := (Below.refl _ wo).drew
        have heq := eql_same ad wo
        go_wp2
        go_region_held3 (fun W => (W.cell? ⟨bx, 0, none⟩ = some (.int .i64 x.s.T) ∧ W.cell? ⟨bx, 1, none⟩ = some (.int .i64 x.s.R) ∧ W.cell? ⟨bx, 2, none⟩ = some (.int .i64 x.I)) ∧ W.cell? ⟨ad, 0, none⟩ = some (.slice Ai R.length ci))
          (first | exact HXo.out _ (by assumption) | go_keep)
          (first | (go_at_call 77; refine (HI.out _ k1).mono ?_; rintro e w5 ⟨⟨r, rfl, hr⟩, hg5⟩; have hrx := at_ix hr HXB.out; rw [HKX.out] at hrx; subst hrx; have k2 := k1.trans (hg5.below.mono k1.size); clear hg5 hr))
        have HB5 := Lib.hid (HBo.out.trans (k2.mono HBo.out.size))
        have d1 : w5.cell? ⟨ad, 1, none⟩ = some (.slice As R.length cs) := cell_of_row _ _ 1 _ _ _ (HBL.out w5 HB5.out).cell
        have HSN := Lib.hid (fun W (hW : Below W0.heap.size W0 W) => (show Rd W W0.heap.size 1 (.slice As (seenR R).length cs) (seenR R).length ((seenR R).flatMap boC) from by rw [seenR_len]; exact (Rd.of_own (HBL.out W0 (Below.refl _ _)).sn).below' hW (Nat.le_refl _)))
        have j1 : (0 : Int) ≤ (kx : Int) := by omega
        have j2 : (kx : Int) ≤ (R.length : Int) := by omega
        have j3 : (kx : Int) ≤ (cs : Int) := by omega
        have HK2 := Lib.hid k2
        clear k1 k2 c1 i1 i2 heq
        go_wp2
        go_loopw [5, 60] (fun se i wr => PmRel cp R kx W0 se i wr) (fun _ i _ => kx - (intOf i).toNat)
        case atStart => exact ⟨0, Nat.zero_le _, rfl, by rw [List.take_zero]; rfl, HB5.out⟩
        case round =>
          obtain ⟨j, hj, rfl, rfl, hb⟩ := hrel
          obtain ⟨wq, rfl⟩ : ∃ wq : World, wq = wr := ⟨_, rfl⟩
          have HBq := Lib.hid hb
          clear hb
          by_cases hjl : j < kx
          · have hjR : j < R.length := by omega
            obtain ⟨b2, o2, rfl, hB2, hcell2⟩ := rd_at boC 1 (fun _ => rfl) (by decide) (HSN.out wq HBq.out) (show j < (seenR R).length by rw [seenR_len]; exact hjR)
            have hsn : (seenR R)[j]'(by rw [seenR_len]; exact hjR) = (R[j]).2 := by simp [seenR]
            rw [hsn] at hcell2
            have hct := cntR_take_succ hjR
            obtain ⟨q, hq⟩ : ∃ q, (R[j]).2 = q := ⟨_, rfl⟩
            rw [hq] at hcell2 hct
            have e0 : wq.cell? ⟨b2, o2 + j, none⟩ = some (.bool q) := by have := hcell2 0 _ rfl; simpa using this
            have hle := cntR_le (R.take (j + 1))
            rw [List.length_take] at hle
            obtain ⟨ct, hcte⟩ : ∃ z, cntR (R.take j) = z := ⟨_, rfl⟩
            rw [hcte] at hct
            rw [hcte]
            have i3 : (0 : Int) ≤ (j : Int) := by omega
            have i4 : (j : Int) < (kx : Int) := by omega
            have hb1 : ct ≤ 100000 := by omega
            have hb2 : cp ≤ 100000 := by omega
            clear hcell2 hsn hq hle hcte
            cases q
            · have HCT := Lib.hid (show cntR (R.take (j + 1)) = ct from hct)
              clear hct
              go_wp2
              go_roundw
              case rel => exact ⟨j + 1, by omega, by go_num, by rw [HCT.out], HBq.out⟩
              case measure => simp [intOf]; omega
            · have HCT := Lib.hid (show cntR (R.take (j + 1)) = ct + 1 from hct)
              have a1 : IntKind.i64.wrap (((cp + ct : Nat) : Int) + 1) = ((cp + (ct + 1) : Nat) : Int) := by rw [IntWalk.i64_in _ (by omega)]; omega
              clear hct
              go_wp2
              go_roundw
              case rel => exact ⟨j + 1, by omega, by go_num, by rw [HCT.out]; first | rfl | go_num | (congr 1; omega), HBq.out⟩
              case measure => simp [intOf]; omega
          · obtain rfl : j = kx := by omega
            have a1 : IntKind.i64.wrap ((lp : Int) + (j : Int)) = ((lp + j : Nat) : Int) := by rw [IntWalk.i64_in _ (by omega)]; omega
            go_wp2
            go_ret3
            unfold PlacePost
            rw [HV.out]
            exact ⟨by first | rfl | (congr; omega) | simp, HB0.out.trans (HBq.out.mono HB0.out.size)⟩
  · have hin := inF_none (Bs := Bs) (x := x) (by rw [hrow]; exact hx)
    rw [hin] at hlk hlk'
    dsimp only [Option.getD_none, ptV] at hlk hlk'
    have HV := Lib.hid (show placeV R0 x = (0, 0, 111) from if_neg hx)
    clear h hb0 hx0 hW0 hbx h0 hrow hnd hcnt hall hfm hin hx
    unfold idV
    go_enter Tryd.func67, Tryd.ntmps67
    go_wp2
    rw [HW0.out, HBX.out]
    go_region
    go_wp2
    go_ret3
    unfold PlacePost
    rw [HV.out]
    exact ⟨rfl, HB0.out.drew⟩
end Go.Proofs.YtphapjbfaomblaaDoor
/- append of all of a slice of one's own, an empty one too. Plain, over any program. -/
namespace Go.Proofs.YtphapjbfaomblaaDoor
open Go Go.RowKit
theorem wpList_append_row {P : Program} {w : World} {ops : Array Oper} {rest : List Oper} {o : Oper} {a : Act} {Q : Exit → Act → World → Prop} (hgd : o.guard = none) (s x : Operand) (t : TypeId)
    (ho : o.op = .call { callee := .builtin .append, args := #[s, x], argTypes := #[t, t] })
    (base : Nat) (e : TypeId) (i : TypeInfo) (z : Value) (size bytes : Nat) (ht : P.underlying t = some (.slice e)) (hi : P.info? e = some i) (hz : i.zero = some z)
    (hsize : i.size = size) (hby : i.bytes = bytes) (hzs : z.cells.size = size) (hsz : 0 < size)
    (v : Value) (n : Nat) (xs : List Value) (hs : a.eval s = v) (hown : w.ownsRow base e size v n xs)
    (vb : Value) (base' m : Nat) (news : List Value) (hx : a.eval x = vb) (hsrc : w.ownsRow base' e size vb m news) (h1 : ∀ u ∈ news, u.oneCell' = true)
    (h63 : n + m ≤ maxLen) (hbytes : (n + m) * bytes ≤ 140737488355328) (hbase : base ≤ w.heap.size)
    (h : ∀ v' w', w'.ownsRow base e size v' (n + m) (xs ++ news) → w.grownBy w' v.ownBlock → wpList P ops Q rest (a.put o.dst v') w') : wpList P ops Q (o :: rest) a w := by
  rcases hsrc.2 with ⟨rfl, rfl⟩ | ⟨g, cap, cur, rfl, _, _, _, _, _, _⟩
  · have hn : news = [] := List.eq_nil_of_length_eq_zero (by simpa using hsrc.1)
    subst hn
    have hr := run_append_owned_none (w := w) base t o.type e i size ht hi v n xs hown
    refine wpList_plain hgd fun _ hK => ?_
    unfold Oper.wp execOp
    simp only [ho, resolve, invoke, builtin, Sem.run_bind, Sem.run_pure, Result.andThen_ok, List.map_toArray, List.map_cons, List.map_nil, hs, hx, hr]
    exact hK _ _ (h v w (by simpa using hown) ⟨rfl, rfl, rfl, Nat.le_refl _, fun _ _ _ => rfl⟩)
  · exact wpList_append_own w hgd s x t ho base e i z size bytes ht hi hz hsize hby hzs hsz v n xs hs hown ⟨g, 0, none⟩ m cap news hx hsrc.1 (hsrc.cells (g := g) rfl) h1 h63 hbytes hbase (fun v' w' h2 h3 _ => h v' w' h2 h3)
theorem list_one {α : Type} {f : α → List Value} (h : ∀ x, ∀ u ∈ f x, u.oneCell' = true) (L : List α) : ∀ u ∈ L.flatMap f, u.oneCell' = true := by
  intro u hu
  obtain ⟨x, _, hx⟩ := List.mem_flatMap.1 hu
  exact h x u hx
end Go.Proofs.YtphapjbfaomblaaDoor
