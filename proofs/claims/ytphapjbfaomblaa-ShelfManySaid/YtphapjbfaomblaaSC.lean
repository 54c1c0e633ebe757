/- The shelf's List. -/
import Derived.Test.YtphapjbfaomblaaSB
namespace Go.Proofs.Ytphapjbfaomblaa
open Go Go.RowKit Go.Maps
theorem info33 : (Try.prog.info? 33).map (fun i => (i.zero, i.size, i.bytes)) = some (some (.agg #[.int .i64 0, .int .i64 0, .int .i64 0]), 3, 24) := by kernel_rfl
theorem names_take (R : Row Id) (j : Nat) : namesR (R.take j) = (namesR R).take j := by simp [namesR]
theorem listR_snoc (P : Row Id) (p : Id × Bool) (s : Bool) : listR (P ++ [p]) s = listR P s ++ if (p.2 || !s) = true then [p.1] else [] := by
  rw [listR_app]
  congr 1
  by_cases h : (p.2 || !s) = true
  · rw [if_pos h]; simp [listR, namesR, h]
  · rw [if_neg h]; simp only [Bool.not_eq_true] at h; simp [listR, namesR, h]
theorem listR_le (P : Row Id) (s : Bool) : (listR P s).length ≤ P.length := by
  unfold listR
  rw [names_len]
  exact List.length_filter_le _ _
def LsRel (Bs : List Bl) (s : Bool) (w : World) (out i : Value) (wr : World) : Prop :=
  ∃ k : Nat, k ≤ Bs.length ∧ i = .int .i64 k ∧ wr.ownsRow w.heap.size 33 3 out (listR (rowOf (Bs.take k)) s).length ((listR (rowOf (Bs.take k)) s).flatMap idC) ∧ Below w.heap.size w wr
def LiRel (P R : Row Id) (s : Bool) (w : World) (out i : Value) (wr : World) : Prop :=
  ∃ j : Nat, j ≤ R.length ∧ i = .int .i64 j ∧ wr.ownsRow w.heap.size 33 3 out (listR (P ++ R.take j) s).length ((listR (P ++ R.take j) s).flatMap idC) ∧ Below w.heap.size w wr
set_option maxRecDepth 100000 in
set_option maxHeartbeats 4000000 in
theorem list_any {w : World} {sb mp : Nat} {vb : Value} {Bs : List Bl} {D : DataW (Option Nat)} {t : Int} (h : ShIs w sb mp vb Bs D t) (hlen : (rowOf Bs).length ≤ 100000) (s : Bool) :
    Calls Try.prog 11 #[.pointer (some ⟨sb, 0, none⟩), .bool s] w fun e w' => ∃ v, e = .returned v ∧ w'.ownsRow w.heap.size 33 3 v (listR (rowOf Bs) s).length ((listR (rowOf Bs) s).flatMap idC) ∧ Below w.heap.size w w' := by
  obtain ⟨i0, hi, hz0, hz1, hz2⟩ := info_parts info33
  obtain ⟨Av, cv, rfl, hnc0, hcm0⟩ := (Rd.of_own h.row).form
  unfold maxLen at hcm0
  have HS := Lib.hid (fun W (hW : Below w.heap.size w W) => h.below hW)
  have hsb : sb < w.heap.size := kind_lt (kind_cell h.cell)
  have c00 : w.cell? ⟨sb, 0, none⟩ = some (.slice Av Bs.length cv) := cell_of_row _ _ 0 _ _ _ h.cell
  have hw1 : (w.alloc (.cells #[] 33)).cell? ⟨sb, 0, none⟩ = some (.slice Av Bs.length cv) := by rw [World.cell?_of_block (Below.heap_alloc _ _ _ hsb)]; exact c00
  have hown0 : (w.alloc (.cells #[] 33)).ownsRow w.heap.size 33 3 (.slice (some ⟨w.heap.size, 0, none⟩) 0 0) 0 [] := own_mk (R := []) rfl (Nat.le_refl _) (Nat.le_refl _) (Nat.zero_le _) (heap_alloc_new w _) rfl
  have HO0 := Lib.hid hown0
  clear h c00 hown0
  go_enter Try.func11, Try.ntmps11
  go_wp2
  obtain ⟨W0, hW0⟩ : ∃ W, w.alloc (.cells #[] 33) = W := ⟨_, rfl⟩
  have hB0 : Below w.heap.size w W0 := by rw [← hW0]; exact (Below.refl _ w).alloc (Nat.le_refl _) _
  have HO1 := Lib.hid (show W0.ownsRow w.heap.size 33 3 (.slice (some ⟨w.heap.size, 0, none⟩) 0 0) 0 [] from by rw [← hW0]; exact HO0.out)
  have HB0 := Lib.hid hB0
  rw [hW0]
  clear hW0 hB0 HO0 hw1
  go_loopw [5, 16] (fun out i wr => LsRel Bs s w out i wr) (fun _ i _ => Bs.length - (intOf i).toNat)
  case atStart => exact ⟨0, Nat.zero_le _, rfl, HO1.out, HB0.out⟩
  case round =>
    obtain ⟨k, hk, rfl, hO, hb⟩ := hrel
    obtain ⟨wo, rfl⟩ : ∃ wo : World, wo = wr := ⟨_, rfl⟩
    have HO := Lib.hid hO
    have HBo := Lib.hid hb
    clear hO hb
    by_cases hlt : k < Bs.length
    · obtain ⟨g, cap, e1, c1, _⟩ := (HS.out wo HBo.out).at hlt
      injection e1 with e1 _ e3
      subst e1; subst e3
      have hbm : Bs[k] ∈ Bs := List.getElem_mem hlt
      have htk : Bs.take (k + 1) = Bs.take k ++ [Bs[k]] := List.take_succ_eq_append_getElem hlt
      have hrl : (rowOf (Bs.take k)).length + (Bs[k]).R.length ≤ (rowOf Bs).length := by
        have e : rowOf Bs = rowOf (Bs.take k) ++ ((Bs[k]).R ++ rowOf (Bs.drop (k + 1))) := by
          rw [← rowOf_cons, List.getElem_cons_drop, ← rowOf_app, List.take_append_drop]
        rw [e]
        simp only [List.length_append]
        omega
      have hbl := fun W (hW : Below w.heap.size w W) => (HS.out W hW).bl _ hbm
      obtain ⟨b, hbe⟩ : ∃ b, Bs[k] = b := ⟨_, rfl⟩
      rw [hbe] at c1 htk hbl hrl
      have hadl : b.ad < w.heap.size := kind_lt (kind_cell (hbl w (Below.refl _ _)).cell)
      obtain ⟨ad, vi, vs, n, R⟩ := b
      dsimp only at c1 hrl hadl
      obtain ⟨Ai, ci, hvi, _, hcm⟩ := (Rd.of_own (hbl w (Below.refl _ _)).ids).form
      obtain ⟨As, cs, hvs, _, hcm2⟩ := (Rd.of_own (hbl w (Below.refl _ _)).sn).form
      dsimp only at hvi hvs
      subst hvi; subst hvs
      have HBL := Lib.hid hbl
      have HTK := Lib.hid (show rowOf (Bs.take (k + 1)) = rowOf (Bs.take k) ++ R from by rw [htk, rowOf_app]; simp [rowOf])
      obtain ⟨P, hP⟩ : ∃ P, rowOf (Bs.take k) = P := ⟨_, rfl⟩
      rw [hP] at HTK hrl HO
      have c2 : wo.cell? ⟨ad, 0, none⟩ = some (.slice Ai R.length ci) := cell_of_row _ _ 0 _ _ _ (HBL.out wo HBo.out).cell
      have i1 : (0 : Int) ≤ (k : Int) := by omega
      have i2 : (k : Int) < (Bs.length : Int) := by omega
      clear hbm htk hbl hbe hP hcm hcm2
      go_wp2
      clear c1 c2
      go_loopw [5, 25] (fun out i wr => LiRel P R s w out i wr) (fun _ i _ => R.length - (intOf i).toNat)
      case atStart => exact ⟨0, Nat.zero_le _, rfl, by rw [List.take_zero, List.append_nil]; exact HO.out, HBo.out⟩
      case round =>
        obtain ⟨j, hj, rfl, hOj, hbj⟩ := hrel
        obtain ⟨wq, rfl⟩ : ∃ wq : World, wq = wr := ⟨_, rfl⟩
        obtain ⟨Ao, co, rfl, _, _⟩ := (Rd.of_own hOj).form
        have HOj := Lib.hid hOj
        have HBj := Lib.hid hbj
        clear hOj hbj
        by_cases hjl : j < R.length
        · obtain ⟨b1, o1, rfl, hB1, hcell1⟩ := rd_at idC 3 (fun _ => rfl) (by decide) (show Rd wq w.heap.size 3 (.slice Ai (namesR R).length ci) (namesR R).length ((namesR R).flatMap idC) from by rw [names_len]; exact (Rd.of_own (HBL.out w (Below.refl _ _)).ids).below' HBj.out (Nat.le_refl _)) (show j < (namesR R).length by rw [names_len]; exact hjl)
          obtain ⟨b2, o2, rfl, hB2, hcell2⟩ := rd_at boC 1 (fun _ => rfl) (by decide) (show Rd wq w.heap.size 1 (.slice As (seenR R).length cs) (seenR R).length ((seenR R).flatMap boC) from by rw [seenR_len]; exact (Rd.of_own (HBL.out w (Below.refl _ _)).sn).below' HBj.out (Nat.le_refl _)) (show j < (seenR R).length by rw [seenR_len]; exact hjl)
          have hsn : (seenR R)[j]'(by rw [seenR_len]; exact hjl) = (R[j]).2 := by simp [seenR]
          have hnm : (namesR R)[j]'(by rw [names_len]; exact hjl) = (R[j]).1 := by simp [namesR]
          rw [hnm] at hcell1
          rw [hsn] at hcell2
          have hsnoc := listR_snoc (P ++ R.take j) R[j] s
          rw [List.append_assoc, ← List.take_succ_eq_append_getElem hjl] at hsnoc
          obtain ⟨⟨x, q⟩, hx⟩ : ∃ p, R[j] = p := ⟨_, rfl⟩
          rw [hx] at hcell1 hcell2 hsnoc
          dsimp only at hcell1 hcell2 hsnoc
          have hle := listR_le (P ++ R.take j) s
          rw [List.length_append, List.length_take] at hle
          have HBq1 : Below w.heap.size w (wq.alloc (.cells #[.int .i64 x.s.T, .int .i64 x.s.R, .int .i64 x.I] 33)) := HBj.out.alloc HBj.out.size _
          have d0 : wq.cell? ⟨b1, o1 + j * 3, none⟩ = some (.int .i64 x.s.T) := hcell1 0 _ rfl
          have d1 : wq.cell? ⟨b1, o1 + j * 3 + 1, none⟩ = some (.int .i64 x.s.R) := hcell1 1 _ rfl
          have d2 : wq.cell? ⟨b1, o1 + j * 3 + 2, none⟩ = some (.int .i64 x.I) := hcell1 2 _ rfl
          have hwb : b2 < wq.heap.size := Nat.lt_of_lt_of_le hB2 HBj.out.size
          have e0 : (wq.alloc (.cells #[.int .i64 x.s.T, .int .i64 x.s.R, .int .i64 x.I] 33)).cell? ⟨b2, o2 + j, none⟩ = some (.bool q) := by
            rw [World.cell?_of_block (Below.heap_alloc _ _ _ hwb)]
            have := hcell2 0 _ rfl
            simpa using this
          have e1 : (wq.alloc (.cells #[.int .i64 x.s.T, .int .i64 x.s.R, .int .i64 x.I] 33)).cell? ⟨ad, 1, none⟩ = some (.slice (some ⟨b2, o2, none⟩) R.length cs) := cell_of_row _ _ 1 _ _ _ (HBL.out _ HBq1).cell
          have i3 : (0 : Int) ≤ (j : Int) := by omega
          have i4 : (j : Int) < (R.length : Int) := by omega
          have HSN := Lib.hid hsnoc
          have HB1 := Lib.hid HBq1
          have hbx := heap_alloc_new wq (.cells #[.int .i64 x.s.T, .int .i64 x.s.R, .int .i64 x.I] 33)
          have g0 : (wq.alloc (.cells #[.int .i64 x.s.T, .int .i64 x.s.R, .int .i64 x.I] 33)).cell? ⟨wq.heap.size, 0, none⟩ = some (.int .i64 x.s.T) := cell_of_row _ _ 0 _ _ _ hbx
          have g1 : (wq.alloc (.cells #[.int .i64 x.s.T, .int .i64 x.s.R, .int .i64 x.I] 33)).cell? ⟨wq.heap.size, 1, none⟩ = some (.int .i64 x.s.R) := cell_of_row _ _ 1 _ _ _ hbx
          have g2 : (wq.alloc (.cells #[.int .i64 x.s.T, .int .i64 x.s.R, .int .i64 x.I] 33)).cell? ⟨wq.heap.size, 2, none⟩ = some (.int .i64 x.I) := cell_of_row _ _ 2 _ _ _ hbx
          obtain ⟨LL, hLL⟩ : ∃ LL, listR (P ++ R.take j) s = LL := ⟨_, rfl⟩
          rw [hLL] at hle HSN HOj
          have hHOW := (HOj.out.alloc (.cells #[.int .i64 x.s.T, .int .i64 x.s.R, .int .i64 x.I] 33))
          have hHOL := HOj.out
          obtain ⟨LN, hLN⟩ : ∃ n, LL.length = n := ⟨_, rfl⟩
          rw [hLL]
          rw [hLN] at hle hHOW HOj ⊢
          have HOW := Lib.hid hHOW
          have HLN := Lib.hid hLN
          clear hcell1 hcell2 hx hsn hnm hsnoc HBq1 hbx hLL hHOW hHOL hLN
          cases s
          · cases q
            all_goals
              go_wp2_with (at_builtin; refine wpList_append_own_at _ rfl _ _ 35 rfl w.heap.size 33 i0 _ 3 24 Try.underlying35 hi hz0 hz1 hz2 rfl (by decide) _ _ _ rfl (HOW.out.alloc _) ⟨wq.heap.size + 1, 0, none⟩ 1 1 (idC x) rfl rfl ?qc (by simp [idC, Value.oneCell']) ?q2 ?q3 ?q4 ?_)
              case qc => (have := cells_new (wq.alloc (.cells #[.int .i64 x.s.T, .int .i64 x.s.R, .int .i64 x.I] 33)) (idC x) 33; rw [World.size_alloc] at this; exact this)
              case q2 => unfold maxLen; omega
              case q3 => omega
              case q4 => have := HBj.out.size; simp; omega
              intro v7 W7 hown7 hgrow7 _ _
              have hb7 : Below w.heap.size w W7 := (HB1.out.alloc HB1.out.size _).grown hgrow7 (by have := HBj.out.size; simp; omega) (fun j hj => (HOj.out.lt j hj).1)
              have HB7 := Lib.hid hb7
              have HSN2 := Lib.hid (show listR (P ++ R.take (j + 1)) false = LL ++ [x] from by rw [HSN.out]; rfl)
              have HO7 := Lib.hid (show W7.ownsRow w.heap.size 33 3 v7 (listR (P ++ R.take (j + 1)) false).length ((listR (P ++ R.take (j + 1)) false).flatMap idC) by rw [HSN2.out, List.length_append, HLN.out, List.flatMap_append, List.flatMap_singleton]; exact hown7)
              clear hown7 hgrow7 hb7 d0 d1 d2 e0 e1 g0 g1 g2
              go_wp2
              go_roundw
              case rel => exact ⟨j + 1, by omega, by go_num, HO7.out, HB7.out⟩
              case measure => simp [intOf]; omega
          · cases q
            · skip
              have HSN2 := Lib.hid (show listR (P ++ R.take (j + 1)) true = LL from by rw [HSN.out]; simp)
              have HO7 := Lib.hid (show (wq.alloc (.cells #[.int .i64 x.s.T, .int .i64 x.s.R, .int .i64 x.I] 33)).ownsRow w.heap.size 33 3 (.slice Ao LN co) (listR (P ++ R.take (j + 1)) true).length ((listR (P ++ R.take (j + 1)) true).flatMap idC) by rw [HSN2.out, HLN.out]; exact HOW.out)
              go_wp2
              go_roundw
              case rel => exact ⟨j + 1, by omega, by go_num, HO7.out, HB1.out⟩
              case measure => simp [intOf]; omega
            · skip
              go_wp2_with (at_builtin; refine wpList_append_own_at _ rfl _ _ 35 rfl w.heap.size 33 i0 _ 3 24 Try.underlying35 hi hz0 hz1 hz2 rfl (by decide) _ _ _ rfl (HOW.out.alloc _) ⟨wq.heap.size + 1, 0, none⟩ 1 1 (idC x) rfl rfl ?qc (by simp [idC, Value.oneCell']) ?q2 ?q3 ?q4 ?_)
              case qc => (have := cells_new (wq.alloc (.cells #[.int .i64 x.s.T, .int .i64 x.s.R, .int .i64 x.I] 33)) (idC x) 33; rw [World.size_alloc] at this; exact this)
              case q2 => unfold maxLen; omega
              case q3 => omega
              case q4 => have := HBj.out.size; simp; omega
              intro v7 W7 hown7 hgrow7 _ _
              have hb7 : Below w.heap.size w W7 := (HB1.out.alloc HB1.out.size _).grown hgrow7 (by have := HBj.out.size; simp; omega) (fun j hj => (HOj.out.lt j hj).1)
              have HB7 := Lib.hid hb7
              have HSN2 := Lib.hid (show listR (P ++ R.take (j + 1)) true = LL ++ [x] from by rw [HSN.out]; rfl)
              have HO7 := Lib.hid (show W7.ownsRow w.heap.size 33 3 v7 (listR (P ++ R.take (j + 1)) true).length ((listR (P ++ R.take (j + 1)) true).flatMap idC) by rw [HSN2.out, List.length_append, HLN.out, List.flatMap_append, List.flatMap_singleton]; exact hown7)
              clear hown7 hgrow7 hb7 d0 d1 d2 e0 e1 g0 g1 g2
              go_wp2
              go_roundw
              case rel => exact ⟨j + 1, by omega, by go_num, HO7.out, HB7.out⟩
              case measure => simp [intOf]; omega
        · obtain rfl : j = R.length := by omega
          have hRR : rowOf (Bs.take (k + 1)) = P ++ R.take R.length := by rw [List.take_length]; exact HTK.out
          have HOe := Lib.hid (show wq.ownsRow w.heap.size 33 3 (.slice Ao (listR (P ++ R.take R.length) s).length co) (listR (rowOf (Bs.take (k + 1))) s).length ((listR (rowOf (Bs.take (k + 1))) s).flatMap idC) from by rw [hRR]; exact HOj.out)
          clear hRR
          go_wp2
          go_roundw
          case rel => exact ⟨k + 1, by omega, by go_num, HOe.out, HBj.out⟩
          case measure => simp [intOf]; omega
    · obtain rfl : k = Bs.length := by omega
      have HOe := Lib.hid HO.out
      rw [List.take_length] at HOe
      go_wp2
      go_ret
      exact ⟨_, rfl, HOe.out, HBo.out⟩
end Go.Proofs.Ytphapjbfaomblaa
