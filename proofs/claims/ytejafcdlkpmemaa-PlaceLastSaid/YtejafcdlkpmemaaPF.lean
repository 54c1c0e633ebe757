/- Lists of places compared. -/
import Derived.Test.YtejafcdlkpmemaaPA
import Derived.BigQuiet
namespace Go.Proofs.Ytejafcdlkpmemaa
open Go Go.RowKit
theorem str71 : Try.prog.underlying 71 = some (.struct (Try.prog.fieldsOf 71)) := by kernel_rfl
theorem st71 : Try.prog.stoodInHeld 71 = false := by kernel_rfl
theorem gd71 : Try.prog.eqGuardType Try.prog.depth 71 = false := by kernel_rfl
theorem eqIn71 (n : Nat) (p q : Place) (w : World) : (Op.equalIn (n + 4) 71 (plV p) (plV q)).run Try.prog w = .ok (decide (p = q)) w := by
  have u3 := Try.underlying3
  have a3 := Try.isAgg3
  have z3 := Try.sizeOf3
  have a24 := Try.isAgg24
  have z24 := Try.sizeOf24
  have a26 := Try.isAgg26
  have z26 := Try.sizeOf26
  have u4 := Try.underlying4
  have a4 := Try.isAgg4
  have z4 := Try.sizeOf4
  unfold plV
  rw [run_equalIn_agg w (n + 3) 71 _ _ str71 st71]
  simp only [Program.fieldsOf, Try.underlying71]
  go_simp
  by_cases h : p = q
  · subst h; simp
  · rw [decide_eq_false h]
    obtain ⟨⟨⟨a1, a2, _, _⟩, a3, _⟩, ⟨⟨a4, a5, _, _⟩, a6, _⟩, a7, a8⟩ := p
    obtain ⟨⟨⟨b1, b2, _, _⟩, b3, _⟩, ⟨⟨b4, b5, _, _⟩, b6, _⟩, b7, b8⟩ := q
    have hb : a7.toList = b7.toList ↔ a7 = b7 := ⟨fun e => by rw [Lib.toList_data, Lib.toList_data] at e; exact Go.WideShapes.bytes_inj e, fun e => by rw [e]⟩
    simp only [hb]
    split
    · split
      · split
        · split
          · split
            · split
              · split
                · split
                  · rename_i h1 h2 h3 h4 h5 h6 h7 h8
                    try simp only at h1 h2 h3 h4 h5 h6 h7 h8
                    subst h1; subst h2; subst h3; subst h4; subst h5; subst h6; subst h7; subst h8
                    exact absurd rfl h
                  · rfl
                · rfl
              · rfl
            · rfl
          · rfl
        · rfl
      · rfl
    · rfl
theorem neq71 (p q : Place) (w : World) : (binOp .neq 71 (plV p) (plV q)).run Try.prog w = .ok (.bool (!decide (p = q))) w := by
  have h := eqIn71 9996 p q w
  unfold plV at h ⊢
  rw [run_neq_struct, show (10000 : Nat) = 9996 + 4 from rfl, h]; rfl
set_option maxHeartbeats 1000000 in
theorem samePl_any (L M : List Place) (A A' : Option Addr) (n c n' c' B : Nat) (w : World) (hR : Rd w B 8 (.slice A n c) n (L.flatMap plC)) (hR' : Rd w B 8 (.slice A' n' c') n' (M.flatMap plC)) :
    Calls Try.prog 38 #[.slice A n c, .slice A' n' c'] w fun e w' => e = .returned (.bool (decide (L = M))) ∧ Grows w w' := by
  obtain ⟨_, hnc, hcm⟩ := hR.len
  obtain ⟨_, hnc', hcm'⟩ := hR'.len
  unfold maxLen at hcm hcm'
  obtain rfl := len_of plC 8 (fun _ => rfl) (by decide) hR.1
  obtain rfl := len_of plC 8 (fun _ => rfl) (by decide) hR'.1
  have HR := Lib.hid hR
  have HR' := Lib.hid hR'
  clear hR hR'
  by_cases hl : L.length = M.length
  · have hl' : ((L.length : Int) != (M.length : Int)) = false := by simp [hl]
    have HL := Lib.hid hl
    clear hl
    go_enter Try.func38, Try.ntmps38
    go_wp2
    go_loopw [5] (fun i wr => SameRel L M w i wr) (fun i _ => L.length - (intOf i).toNat)
    case atStart => exact ⟨0, Nat.zero_le _, rfl, rfl, 0, rfl⟩
    case round =>
      obtain ⟨k, hk, rfl, hno, qn, rfl⟩ := hrel
      by_cases hlt : k < L.length
      · have hlt' : k < M.length := by have := HL.out; omega
        obtain ⟨b, o, rfl, hB', hcell⟩ := rd_at plC 8 (fun _ => rfl) (by decide) HR.out hlt
        obtain ⟨b', o', rfl, hB2, hcell'⟩ := rd_at plC 8 (fun _ => rfl) (by decide) HR'.out hlt'
        have hsm : L[k] = M[k] → L.take (k + 1) = M.take (k + 1) := fun h => same_take hlt hlt' hno h
        have hdf : L[k] ≠ M[k] → L ≠ M := fun h e => h (by subst e; rfl)
        obtain ⟨p, hp⟩ : ∃ p, L[k] = p := ⟨_, rfl⟩
        obtain ⟨q, hqq⟩ : ∃ q, M[k] = q := ⟨_, rfl⟩
        rw [hp] at hcell hsm hdf
        rw [hqq] at hcell' hsm hdf
        have HSM := Lib.hid hsm
        have HDF := Lib.hid hdf
        clear hp hqq hsm hdf hno
        have d0 : w.cell? ⟨b, o + k * 8, none⟩ = some (.int .i64 p.nd.s.T) := hcell 0 _ rfl
        have d1 : w.cell? ⟨b, o + k * 8 + 1, none⟩ = some (.int .i64 p.nd.s.R) := hcell 1 _ rfl
        have d2 : w.cell? ⟨b, o + k * 8 + 2, none⟩ = some (.int .i64 p.nd.I) := hcell 2 _ rfl
        have d3 : w.cell? ⟨b, o + k * 8 + 3, none⟩ = some (.int .i64 p.pa.s.T) := hcell 3 _ rfl
        have d4 : w.cell? ⟨b, o + k * 8 + 4, none⟩ = some (.int .i64 p.pa.s.R) := hcell 4 _ rfl
        have d5 : w.cell? ⟨b, o + k * 8 + 5, none⟩ = some (.int .i64 p.pa.I) := hcell 5 _ rfl
        have d6 : w.cell? ⟨b, o + k * 8 + 6, none⟩ = some (.string p.nm) := hcell 6 _ rfl
        have d7 : w.cell? ⟨b, o + k * 8 + 7, none⟩ = some (.bool p.dir) := hcell 7 _ rfl
        have e0 : w.cell? ⟨b', o' + k * 8, none⟩ = some (.int .i64 q.nd.s.T) := hcell' 0 _ rfl
        have e1 : w.cell? ⟨b', o' + k * 8 + 1, none⟩ = some (.int .i64 q.nd.s.R) := hcell' 1 _ rfl
        have e2 : w.cell? ⟨b', o' + k * 8 + 2, none⟩ = some (.int .i64 q.nd.I) := hcell' 2 _ rfl
        have e3 : w.cell? ⟨b', o' + k * 8 + 3, none⟩ = some (.int .i64 q.pa.s.T) := hcell' 3 _ rfl
        have e4 : w.cell? ⟨b', o' + k * 8 + 4, none⟩ = some (.int .i64 q.pa.s.R) := hcell' 4 _ rfl
        have e5 : w.cell? ⟨b', o' + k * 8 + 5, none⟩ = some (.int .i64 q.pa.I) := hcell' 5 _ rfl
        have e6 : w.cell? ⟨b', o' + k * 8 + 6, none⟩ = some (.string q.nm) := hcell' 6 _ rfl
        have e7 : w.cell? ⟨b', o' + k * 8 + 7, none⟩ = some (.bool q.dir) := hcell' 7 _ rfl
        clear hcell hcell'
        have hq := neq71 p q
        unfold plV at hq
        have hgd := gd71
        by_cases hx : p = q
        · rw [decide_eq_true hx] at hq
          have HX := Lib.hid (HSM.out hx)
          clear hx
          go_wp2
          go_quiet (fail)
          go_wp2
          go_roundw
          case rel => exact ⟨k + 1, by omega, by go_num, HX.out, qn + nq, rfl⟩
          case measure => simp [intOf]; omega
        · rw [decide_eq_false hx] at hq
          have HX := Lib.hid (show decide (L = M) = false from decide_eq_false (HDF.out hx))
          clear hx
          go_wp2
          go_quiet (fail)
          go_wp2
          go_ret
          exact ⟨ret_b HX.out.symm, ((Grows.refl w).drewN qn).drewN nq⟩
      · have HX := Lib.hid (show decide (L = M) = true from decide_eq_true (by rw [List.take_of_length_le (by omega), List.take_of_length_le (by have := HL.out; omega)] at hno; exact hno))
        clear hno
        go_wp2
        go_ret
        exact ⟨ret_b HX.out.symm, (Grows.refl w).drewN qn⟩
  · have hl' : ((L.length : Int) != (M.length : Int)) = true := by simp; omega
    have HX := Lib.hid (show decide (L = M) = false from decide_eq_false (by rintro rfl; exact hl rfl))
    clear hl
    go_enter Try.func38, Try.ntmps38
    go_wp2
    go_ret
    exact ⟨ret_b HX.out.symm, Grows.refl w⟩
end Go.Proofs.Ytejafcdlkpmemaa
