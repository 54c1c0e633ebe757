/- The law ShelfMany, walked. -/
import Derived.Test.YtphapjbfaomblaaTC
import Derived.Test.YtphapjbfaomblaaSK
namespace Go.Proofs.Ytphapjbfaomblaa
open Go Go.RowKit Go.Maps
section
variable {w0 w : World} {P : Nat → Prop} {sb rb : Nat} {R S : Row Id}
theorem Both.sputN (h : Both w0 P sb rb R S w) (hl : R.length ≤ 10000) (p : Nat) (k : Int) (hk : I64 k) (q : Bool) : Calls Try.prog 9 #[.pointer (some ⟨sb, 0, none⟩), .int .i64 (p : Int), .agg #[.int .i64 1, .int .i64 1, .int .i64 k], .bool q] w fun e w' => e = .returned (.int .i64 (errP R p (idN k hk))) ∧ Both w0 P sb rb (putV R p (idN k hk) q) S w' :=
  (h.sput hl p (idN k hk) q).mono fun _ _ h => ⟨h.1, h.2.1⟩
theorem Both.rputN (h : Both w0 P sb rb R S w) (hl : S.length ≤ 10000) (p : Nat) (k : Int) (hk : I64 k) (q : Bool) : Calls Try.prog 18 #[.pointer (some ⟨rb, 0, none⟩), .int .i64 (p : Int), .agg #[.int .i64 1, .int .i64 1, .int .i64 k], .bool q] w fun e w' => e = .returned (.int .i64 (errP S p (idN k hk))) ∧ Both w0 P sb rb R (putV S p (idN k hk) q) w' :=
  (h.rput hl p (idN k hk) q).mono fun _ _ h => ⟨h.1, h.2.1⟩
theorem Both.sshowN (h : Both w0 P sb rb R S w) (hl : R.length ≤ 100000) (k : Int) (hk : I64 k) (q : Bool) : Calls Try.prog 21 #[.pointer (some ⟨sb, 0, none⟩), .agg #[.int .i64 1, .int .i64 1, .int .i64 k], .bool q] w fun e w' => e = .returned (.int .i64 (shE R (idN k hk))) ∧ Both w0 P sb rb (shV R (idN k hk) q) S w' :=
  (h.sshow' hl (idN k hk) q).mono fun _ _ h => ⟨h.1, h.2.1⟩
theorem Both.rshowN (h : Both w0 P sb rb R S w) (k : Int) (hk : I64 k) (q : Bool) : Calls Try.prog 22 #[.pointer (some ⟨rb, 0, none⟩), .agg #[.int .i64 1, .int .i64 1, .int .i64 k], .bool q] w fun e w' => e = .returned (.int .i64 (shE S (idN k hk))) ∧ Both w0 P sb rb R (shV S (idN k hk) q) w' :=
  (h.rshow' (idN k hk) q).mono fun _ _ h => ⟨h.1, h.2.1⟩
theorem Both.splaceN (h : Both w0 P sb rb R S w) (hl : R.length ≤ 100000) (k : Int) (hk : I64 k) {v : Int × Int × Int} (hv : placeV R (idN k hk) = v) : Calls Try.prog 13 #[.pointer (some ⟨sb, 0, none⟩), .agg #[.int .i64 1, .int .i64 1, .int .i64 k]] w fun e w' => e = .returned (.tuple #[.int .i64 v.1, .int .i64 v.2.1, .int .i64 v.2.2]) ∧ Both w0 P sb rb R S w' := by
  subst hv
  exact (h.splace hl (idN k hk)).mono fun _ _ h => ⟨h.1, h.2.1⟩
theorem Both.rplaceN (h : Both w0 P sb rb R S w) (k : Int) (hk : I64 k) {v : Int × Int × Int} (hv : placeV S (idN k hk) = v) : Calls Try.prog 19 #[.pointer (some ⟨rb, 0, none⟩), .agg #[.int .i64 1, .int .i64 1, .int .i64 k]] w fun e w' => e = .returned (.tuple #[.int .i64 v.1, .int .i64 v.2.1, .int .i64 v.2.2]) ∧ Both w0 P sb rb R S w' := by
  subst hv
  exact (h.rplace (idN k hk)).mono fun _ _ h => ⟨h.1, h.2.1⟩
theorem Both.sfindN (h : Both w0 P sb rb R S w) (hl : R.length ≤ 100000) (k : Int) {y : Id} {f : Int} (hv : findV R k = (y, f)) : Calls Try.prog 14 #[.pointer (some ⟨sb, 0, none⟩), .int .i64 k] w fun e w' => e = .returned (.tuple #[.agg #[.int .i64 y.s.T, .int .i64 y.s.R, .int .i64 y.I], .int .i64 f]) ∧ Both w0 P sb rb R S w' := by
  have := h.sfind hl k
  rw [hv] at this
  exact this.mono fun _ _ h => ⟨h.1, h.2.1⟩
theorem Both.rfindN (h : Both w0 P sb rb R S w) (k : Int) {y : Id} {f : Int} (hv : findV S k = (y, f)) : Calls Try.prog 20 #[.pointer (some ⟨rb, 0, none⟩), .int .i64 k] w fun e w' => e = .returned (.tuple #[.agg #[.int .i64 y.s.T, .int .i64 y.s.R, .int .i64 y.I], .int .i64 f]) ∧ Both w0 P sb rb R S w' ∧ Below w.heap.size w w' := by
  have := h.rfind k
  rw [hv] at this
  exact this
end
theorem i64n {k : Nat} (h : k ≤ 70000) : I64 (k : Int) := by unfold I64; omega
def MyRel (n lim big : Nat) (w1 : World) (sb rb : Nat) (i : Value) (wr : World) : Prop := ∃ (k : Nat) (R : Row Id), k ≤ n ∧ k ≤ lim ∧ i = .int .i64 k ∧ Both w1 (fun _ => False) sb rb R R wr ∧ R.length ≤ big ∧ (lim = 400 → R.length ≤ k)
set_option maxRecDepth 100000 in
set_option maxHeartbeats 8000000 in
theorem many_walk (L M : List Nat) (hu : ∀ x ∈ L, x < 65536) (hu2 : ∀ x ∈ M, x < 65536) (A A2 : Option Addr) (n m c c2 : Nat) (w : World) (hR : Rd w w.heap.size 1 (.slice A n c) n (L.flatMap uC)) (hR2 : Rd w w.heap.size 1 (.slice A2 m c2) m (M.flatMap uC)) (hn : L.length = n) (hm : M.length = m) :
    Calls Try.prog 5 #[.slice A n c, .slice A2 m c2] w fun e w' => e = .returned (.bool true) ∧ Below w.heap.size w w' := by
  have HR := Lib.hid (fun W (hW : Below w.heap.size w W) => hR.below' hW (Nat.le_refl _))
  have HR2 := Lib.hid (fun W (hW : Below w.heap.size w W) => hR2.below' hW (Nat.le_refl _))
  have HU := Lib.hid hu
  have HU2 := Lib.hid hu2
  clear hR hR2 hu hu2
  go_enter Try.func5, Try.ntmps5
  go_wp2_with fail
  refine (awake_any w).mono ?_
  rintro e w1 ⟨rfl, hb1⟩
  have HB1 := Lib.hid hb1
  clear hb1
  go_wp2_with fail
  refine (Aw.new w1).mono ?_
  rintro e w2 ⟨sb, rfl, h2⟩
  have h3 := Both.start h2
  clear h2
  obtain ⟨rb, hrb⟩ : ∃ r, w2.heap.size = r := ⟨_, rfl⟩
  obtain ⟨w3, hw3⟩ : ∃ W, w2.alloc (.cells #[.slice none 0 0, .slice none 0 0] 46) = W := ⟨_, rfl⟩
  rw [hrb, hw3] at h3
  have H3 := Lib.hid h3
  have HRB := Lib.hid hrb
  have HW3 := Lib.hid hw3
  clear h3 hrb hw3
  go_wp2_with fail
  rw [HW3.out, HRB.out]
  go_loopw [8] (fun i wr => MyRel n 400 400 w1 sb rb i wr) (fun i _ => n - (intOf i).toNat)
  case atStart => exact ⟨0, [], Nat.zero_le _, Nat.zero_le _, rfl, H3.out, Nat.zero_le _, fun _ => Nat.le_refl _⟩
  case round =>
    obtain ⟨k, R, hk, hk3, rfl, hB, hl, hlk⟩ := hrel
    have hlk := hlk rfl
    obtain ⟨wo, rfl⟩ : ∃ wo : World, wo = wr := ⟨_, rfl⟩
    have HB := Lib.hid hB
    have hbo := hB.out
    clear hB
    by_cases hlt : k < n ∧ k < 400
    · obtain ⟨hl1, hl2⟩ := hlt
      obtain ⟨b, o, rfl, hBb, hcell⟩ := rd_at uC 1 (fun _ => rfl) (by decide) (HR.out w1 HB1.out) (show k < L.length by omega)
      have hx := HU.out _ (List.getElem_mem (show k < L.length by omega))
      have hc0 := hcell 0 _ rfl
      obtain ⟨x, hxe⟩ : ∃ x, L[k] = x := ⟨_, rfl⟩
      simp only [Nat.mul_one, Nat.add_zero, hxe] at hc0
      rw [hxe] at hx
      have HC := Lib.hid (fun W (hW : Below w1.heap.size w1 W) => (show W.cell? ⟨b, o + k, none⟩ = some (.int .u16 (x : Int)) from (hW.cell (p := ⟨b, o + k, none⟩) (Nat.lt_of_lt_of_le hBb HB1.out.size)).trans hc0))
      have c0 := HC.out _ hbo
      have c1 := HC.out _ hbo.drew
      obtain ⟨Ai, ci, vs, hcr, _⟩ := HB.out.rlen
      have r0 : wo.cell? ⟨rb, 0, none⟩ = some (.slice Ai R.length ci) := cell_of_row _ _ 0 _ _ _ hcr
      have i1 : (0 : Int) ≤ (k : Int) := by omega
      have i2 : (k : Int) < (n : Int) := by omega
      have i3 : (k : Int) < 400 := by omega
      obtain ⟨p, hp⟩ : ∃ p, x % (R.length + 1) = p := ⟨_, rfl⟩
      have hpk : p ≤ R.length := by have := Nat.mod_lt x (show R.length + 1 > 0 by omega); omega
      have w1' : IntKind.i64.wrap (x : Int) = x := IntWalk.i64_in _ (by omega)
      have w2' : IntKind.i64.wrap ((R.length : Int) + 1) = (R.length : Int) + 1 := IntWalk.i64_in _ (by omega)
      have hnz : ¬ ((R.length : Int) + 1 = 0) := by omega
      have m1 : Int.tmod (x : Int) ((R.length : Int) + 1) = (p : Int) := by
        rw [Int.tmod_eq_emod_of_nonneg (by omega), ← hp]; rfl
      clear hcell hc0 hp hxe hcr hbo
      go_wp2_with fail
      go_region
      have HBd := HB.out.drew
      go_wp2_with (first
        | (go_at_call 18; refine (h6.rputN (by omega) p k (i64n (by omega)) _).mono ?_; rintro e w7 ⟨rfl, h7⟩)
        | (go_at_call 9; refine (h4.sputN (by omega) p k (i64n (by omega)) _).mono ?_; rintro e w5 ⟨rfl, h5⟩)
        | (go_at_call 10; refine (id_at _ _).mono ?_; rintro e wy ⟨rfl, gy⟩; first | (have h6 := h5.below gy.below) | (have h4 := HBd.below gy.below)))
      go_roundw
      case rel => exact ⟨k + 1, _, by omega, by omega, by go_num, h7, Nat.le_trans (putV_len _ _ _ _) (by omega), fun _ => Nat.le_trans (putV_len _ _ _ _) (by omega)⟩
      case measure => simp [intOf]; omega
    · have hout : (¬ (k : Int) < (n : Int)) ∨ ((k : Int) < (n : Int) ∧ ¬ (k : Int) < 400) := by omega
      clear hlt hbo
      rcases hout with i2 | ⟨i2, i3⟩
      all_goals
        go_wp2_with fail
        go_loopw [11] (fun i wr => MyRel m 100 400 w1 sb rb i wr) (fun i _ => m - (intOf i).toNat)
        case atStart => exact ⟨0, R, Nat.zero_le _, Nat.zero_le _, rfl, HB.out, hl, fun h => by cases h⟩
        case round =>
          clear hlk hl HB i2
          try clear i3
          obtain ⟨j, R, hj, hj3, rfl, hB, hl, _⟩ := hrel
          obtain ⟨wo, rfl⟩ : ∃ wo : World, wo = wr := ⟨_, rfl⟩
          have HB := Lib.hid hB
          have hbo := hB.out
          clear hB
          by_cases hlt : j < m ∧ j < 100
          · obtain ⟨hl1, hl2⟩ := hlt
            obtain ⟨b, o, rfl, hBb, hcell⟩ := rd_at uC 1 (fun _ => rfl) (by decide) (HR2.out w1 HB1.out) (show j < M.length by omega)
            have hx := HU2.out _ (List.getElem_mem (show j < M.length by omega))
            have hc0 := hcell 0 _ rfl
            obtain ⟨x, hxe⟩ : ∃ x, M[j] = x := ⟨_, rfl⟩
            simp only [Nat.mul_one, Nat.add_zero, hxe] at hc0
            rw [hxe] at hx
            have HC := Lib.hid (fun W (hW : Below w1.heap.size w1 W) => (show W.cell? ⟨b, o + j, none⟩ = some (.int .u16 (x : Int)) from (hW.cell (p := ⟨b, o + j, none⟩) (Nat.lt_of_lt_of_le hBb HB1.out.size)).trans hc0))
            have c0 := HC.out _ hbo
            obtain ⟨Ai, ci, vs, hcr, _⟩ := HB.out.rlen
            have r0 : wo.cell? ⟨rb, 0, none⟩ = some (.slice Ai R.length ci) := cell_of_row _ _ 0 _ _ _ hcr
            have i1 : (0 : Int) ≤ (j : Int) := by omega
            have i4 : (j : Int) < (m : Int) := by omega
            have i5 : (j : Int) < 100 := by omega
            obtain ⟨p, hp⟩ : ∃ p, x % (R.length + 1) = p := ⟨_, rfl⟩
            have hpk : p ≤ R.length := by have := Nat.mod_lt x (show R.length + 1 > 0 by omega); omega
            have w1' : IntKind.i64.wrap (x : Int) = x := IntWalk.i64_in _ (by omega)
            have w2' : IntKind.i64.wrap ((R.length : Int) + 1) = (R.length : Int) + 1 := IntWalk.i64_in _ (by omega)
            have hnz : ¬ ((R.length : Int) + 1 = 0) := by omega
            have m1 : Int.tmod (x : Int) ((R.length : Int) + 1) = (p : Int) := by
              rw [Int.tmod_eq_emod_of_nonneg (by omega), ← hp]; rfl
            have hIp : I64 (p : Int) := i64n (by omega)
            obtain ⟨pv, hpv⟩ : ∃ v, placeV R (idN p hIp) = v := ⟨_, rfl⟩
            obtain ⟨y, f, hfv⟩ : ∃ y f, findV R (p : Int) = (y, f) := ⟨_, _, rfl⟩
            have HPV := Lib.hid hpv
            have HFV := Lib.hid hfv
            have hqn := neq26
            have hgd := gd26
            have hE : eq3 y.s.T y.s.R y.I y.s.T y.s.R y.I = true := by rw [eq3_iff]; simp
            clear hcell hc0 hp hxe hcr hbo hpv hfv
            go_wp2_with fail
            go_region
            have HBd := HB.out.drew
            go_wp2_with (first
              | (go_at_call 20; refine ((h9.alloc (.cells #[.int .i64 y.s.T, .int .i64 y.s.R, .int .i64 y.I] 33)).rfindN p HFV.out).mono ?_; rintro e wq ⟨rfl, hq, bq⟩
                 have hh := (bq.block w9.heap.size (by rw [World.size_alloc]; exact Nat.lt_succ_self _)).trans (heap_alloc_new w9 _)
                 have hh2 := ((Below.refl wq.heap.size wq).alloc (Nat.le_refl _) (.cells #[.int .i64 y.s.T, .int .i64 y.s.R, .int .i64 y.I] 33) |>.block w9.heap.size (Array.getElem?_eq_some_iff.1 hh).1).trans hh
                 have z0 : (wq.alloc (.cells #[.int .i64 y.s.T, .int .i64 y.s.R, .int .i64 y.I] 33)).cell? ⟨w9.heap.size, 0, none⟩ = some (.int .i64 y.s.T) := cell_of_row _ _ 0 _ _ _ hh2
                 have z1 : (wq.alloc (.cells #[.int .i64 y.s.T, .int .i64 y.s.R, .int .i64 y.I] 33)).cell? ⟨w9.heap.size, 1, none⟩ = some (.int .i64 y.s.R) := cell_of_row _ _ 1 _ _ _ hh2
                 have z2 : (wq.alloc (.cells #[.int .i64 y.s.T, .int .i64 y.s.R, .int .i64 y.I] 33)).cell? ⟨w9.heap.size, 2, none⟩ = some (.int .i64 y.I) := cell_of_row _ _ 2 _ _ _ hh2
                 have HQ := Lib.hid (hq.alloc (.cells #[.int .i64 y.s.T, .int .i64 y.s.R, .int .i64 y.I] 33))
                 clear hh hh2 bq hq)
              | (go_at_call 14; refine (h7.sfindN (by omega) p HFV.out).mono ?_; rintro e w9 ⟨rfl, h9⟩)
              | (go_at_call 19; refine (h6.rplaceN p hIp HPV.out).mono ?_; rintro e w7 ⟨rfl, h7⟩)
              | (go_at_call 13; refine (h4.splaceN (by omega) p hIp HPV.out).mono ?_; rintro e w5 ⟨rfl, h5⟩)
              | (go_at_call 10; refine (id_at _ _).mono ?_; rintro e wy ⟨rfl, gy⟩; first | (have h6 := h5.below gy.below) | (have h4 := HBd.below gy.below)))
            obtain ⟨W5, hW5⟩ : ∃ W, wq.alloc (.cells #[.int .i64 y.s.T, .int .i64 y.s.R, .int .i64 y.I] 33) = W := ⟨_, rfl⟩
            rw [hW5] at HQ
            rw [hW5]
            clear hW5 z0 z1 z2 c0 r0 h4 h5 h6 h7 h9
            go_region_held3 (fun W' => W'.cell? ⟨b, o + j, none⟩ = some (.int .u16 (x : Int)))
              (first | exact HC.out _ HQ.out.drew.out | exact HC.out _ h15.out | exact HC.out _ h14.out | exact HC.out _ h13.out | exact HC.out _ h12.out)
              (first
                | (go_at_call 22; refine (h14.rshowN p hIp _).mono ?_; rintro e wz ⟨rfl, h15⟩)
                | (go_at_call 21; refine (h12.sshowN (by omega) p hIp _).mono ?_; rintro e wz ⟨rfl, h13⟩)
                | (go_at_call 10; refine (id_at _ _).mono ?_; rintro e wy ⟨rfl, gy⟩; first | (have h14 := h13.below gy.below) | (have h12 := HQ.out.drew.below gy.below)))
            all_goals go_wp2_with fail
            all_goals exact ⟨⟨j + 1, _, by omega, by omega, rfl, h15, by rw [shV_len]; omega, fun h => by cases h⟩, by show m - ((j : Int) + 1).toNat < m - (j : Int).toNat; omega⟩
          · have hRl : R.length ≤ 100000 := by omega
            have hfin : ∀ e w', e = Ending.returned (.bool true) → Below w1.heap.size w1 w' → (e = Ending.returned (.bool true) ∧ Below w.heap.size w w') := fun e w' h1 h2 => ⟨h1, HB1.out.trans (h2.mono HB1.out.size)⟩
            have HF := Lib.hid hfin
            have hout : (¬ (j : Int) < (m : Int)) ∨ ((j : Int) < (m : Int) ∧ ¬ (j : Int) < 100) := by omega
            clear hlt hbo hfin
            rcases hout with i4 | ⟨i4, i5⟩
            all_goals
              go_wp2_with (first
                | (go_at_call 16; refine (sameId_self (listR R true) A3 A4 _ c3 _ c4 w9.heap.size w9 ((hR8.below' hb9 (Nat.le_refl _)).more hb9.size) hR9).mono ?_; rintro e wx ⟨rfl, gx⟩)
                | (go_at_call 17; refine (h8.rlist hRl true).mono ?_; rintro e w9 ⟨A4, c4, rfl, hR9, h9, hb9⟩)
                | (go_at_call 11; refine (HB.out.slist hRl true).mono ?_; rintro e w8 ⟨A3, c3, rfl, hR8, h8, hb8⟩)
                | (go_at_call 23; refine (HB.out.rcount).mono ?_; rintro e wz ⟨rfl, rfl⟩)
                | (go_at_call 12; refine (HB.out.scount).mono ?_; rintro e wz ⟨rfl, rfl⟩))
              go_ret
              exact HF.out _ _ rfl (h9.below gx.below).out
end Go.Proofs.Ytphapjbfaomblaa
