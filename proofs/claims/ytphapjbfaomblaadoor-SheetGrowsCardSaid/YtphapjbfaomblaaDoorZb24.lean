/- Texts of this seat, one behind the other: HA, JS, JT, JW, JU. -/
import Derived.Test.YtphapjbfaomblaaDoorZb23
import Derived.Deep.RegionHeld3
import Derived.Deep.AppendLies
import Derived.Test.YtphapjbfaomblaaDoorZb21
/- The law's Grown: runs that grow, walked. -/
namespace Go.Proofs.YtphapjbfaomblaaDoor
open Go Go.RowKit
theorem row_cells {w : World} {base : Nat} {e : TypeId} {K n : Nat} {v : Value} {xs : List Value} (h : w.ownsRow base e K v n xs) {g : Nat} (hg : v.ownBlock = some g) : ∃ cur, w.heap[g]? = some (.cells cur e (0, 0)) := by
  rcases h.2 with ⟨rfl, _⟩ | ⟨g', cap, cur, rfl, _, hh, _⟩
  · cases hg
  · cases hg
    exact ⟨cur, hh⟩
/-- rows of unlike kinds lie apart -/
theorem apart_kind {w : World} {b b' : Nat} {e e' : TypeId} {K K' n n' : Nat} {v v' : Value} {xs xs' : List Value} (h : w.ownsRow b e K v n xs) (h' : w.ownsRow b' e' K' v' n' xs') (he : e ≠ e') : v.ownBlock = none ∨ v.ownBlock ≠ v'.ownBlock := by
  cases hv : v.ownBlock with
  | none => exact .inl rfl
  | some g =>
    refine .inr fun e1 => ?_
    obtain ⟨c1, h1⟩ := row_cells h hv
    obtain ⟨c2, h2⟩ := row_cells h' e1.symm
    rw [h1] at h2
    injection h2 with h2
    injection h2 with _ h2 _
    exact he h2
theorem ext8 {a n : Nat} (ha : a < 4) (h1 : 1 ≤ n) (h4 : n ≤ 4) : (⟨#[97, 98, 99, 100, 101, 102, 103, 104]⟩ : ByteArray).extract a (a + n) = ofL ((List.range' 0 n).map (fun k => UInt8.ofNat (97 + (a + k) % 8))) := by
  have ha : a = 0 ∨ a = 1 ∨ a = 2 ∨ a = 3 := by omega
  have hn : n = 1 ∨ n = 2 ∨ n = 3 ∨ n = 4 := by omega
  rcases ha with rfl | rfl | rfl | rfl <;> rcases hn with rfl | rfl | rfl | rfl <;> decide
def GrRel (L : List Pick) (w : World) (out is i : Value) (wr : World) : Prop :=
  ∃ k len : Nat, (idsAt L k).length = len ∧ k ≤ min L.length 15 ∧ i = .int .i64 k ∧ wr.ownsRow w.heap.size 28 7 out k ((runsAt L k).flatMap rnC) ∧ wr.ownsRow w.heap.size 26 3 is len ((idsAt L k).flatMap idC) ∧ Below w.heap.size w wr
def GrIn (L : List Pick) (k bx : Nat) (w : World) (out : Value) (is j : Value) (wr : World) : Prop :=
  ∃ m len : Nat, (idsAt L k).length + m = len ∧ m ≤ gN (L.getD k zeroP) ∧ j = .int .i64 m ∧ wr.ownsRow w.heap.size 28 7 out (k + 1) ((runsAt L (k + 1)).flatMap rnC) ∧ wr.ownsRow w.heap.size 26 3 is len ((idsAt L k ++ (List.range' 0 m).map (gId k (L.getD k zeroP))).flatMap idC) ∧ is.ownBlock ≠ some bx ∧
    wr.heap[bx]? = some (.cells (idC (gId k (L.getD k zeroP) 0)).toArray 26 (0, 0)) ∧ Below w.heap.size w wr
def GrPost (L : List Pick) (w : World) (e : Ending) (w' : World) : Prop :=
  ∃ v, e = .returned v ∧ w'.ownsRow w.heap.size 28 7 v (min L.length 15) ((runsAt L (min L.length 15)).flatMap rnC) ∧ Below w.heap.size w w'
theorem info26g : (Tryd.prog.info? 26).map (fun i => (i.zero, i.size, i.bytes)) = some (some (.agg #[.int .i64 0, .int .i64 0, .int .i64 0]), 3, 24) := by kernel_rfl
set_option maxRecDepth 100000 in
set_option maxHeartbeats 4000000 in
theorem grown_any (L : List Pick) (A : Option Addr) (n c B : Nat) (w : World) (hR : Rd w B 3 (.slice A n c) n (L.flatMap pickC)) (hB : B ≤ w.heap.size) :
    Calls Tryd.prog 15 #[.slice A n c] w (GrPost L w) := by
  obtain ⟨_, hnc, hcm⟩ := hR.len
  unfold maxLen at hcm
  obtain rfl := len_of pickC 3 (fun _ => rfl) (by decide) hR.1
  have HR := Lib.hid hR
  clear hR
  obtain ⟨i0, hi, hz0, hz1, hz2⟩ := info_parts info26g
  obtain ⟨j0, gi, gz0, gz1, gz2⟩ := info_parts info28
  go_enter Tryd.func15, Tryd.ntmps15
  go_wp2
  obtain ⟨W0, hW0⟩ : ∃ W, w.alloc (.cells #[.int .i64 0, .int .i64 0, .int .i64 0] 26) = W := ⟨_, rfl⟩
  have hown0 : W0.ownsRow w.heap.size 26 3 (.slice (some ⟨w.heap.size, 0, none⟩) 1 1) 1 ((idsAt L 0).flatMap idC) := by
    rw [← hW0]
    exact own_mk (R := []) rfl (Nat.le_refl _) (Nat.le_refl _) (by decide) (heap_alloc_new w _) rfl
  have hb0 : Below w.heap.size w W0 := by rw [← hW0]; exact (Below.refl _ w).alloc (Nat.le_refl _) _
  rw [hW0]
  have HO0 := Lib.hid hown0
  have HB0 := Lib.hid hb0
  clear hW0 hown0 hb0
  go_loopw [3, 4, 5] (fun a b i wr => GrRel L w a b i wr) (fun _ _ i _ => L.length - (intOf i).toNat)
  case atStart => exact ⟨0, 1, rfl, Nat.zero_le _, rfl, World.ownsRow_nil _ _ _ _, HO0.out, HB0.out⟩
  case round =>
    obtain ⟨k, len, hlen, hk, rfl, hO, hI, hb⟩ := hrel
    have HLEN := Lib.hid hlen
    clear hlen
    obtain ⟨A1, c1, rfl, hLc, hcm2⟩ := (Rd.of_own hO).form
    obtain ⟨A2, c2, rfl, hLc', hcm2'⟩ := (Rd.of_own hI).form
    have HO := Lib.hid hO
    have HI := Lib.hid hI
    clear hO hI
    obtain ⟨wo, rfl⟩ : ∃ wo : World, wo = wr := ⟨_, rfl⟩
    have HK := Lib.hid hk
    have hk15 : k ≤ 15 := by omega
    clear hk
    by_cases hlt : k < L.length
    · by_cases hl4 : k < 15
      · obtain ⟨b, o, rfl, hB', hcell⟩ := rd_at pickC 3 (fun _ => rfl) (by decide) HR.out hlt
        have hbl : b < w.heap.size := by omega
        have hgd : L.getD k zeroP = L[k] := by rw [List.getD_eq_getElem?_getD, List.getElem?_eq_getElem hlt]; rfl
        obtain ⟨x, hx⟩ : ∃ x, L[k] = x := ⟨_, rfl⟩
        rw [hx] at hgd hcell
        have hpos := idsAt_pos L k
        have hile := idsAt_le L k
        have HGD := Lib.hid hgd
        obtain ⟨be, si, re, hbe, hsi, hre⟩ := x
        rw [HLEN.out] at hpos hile
        have HS0 := Lib.hid (fun W' (hW : Below w.heap.size w W') => (show W'.cell? ⟨b, o + k * 3, none⟩ = some (.int .u8 be) ∧ W'.cell? ⟨b, o + k * 3 + 1, none⟩ = some (.int .u8 si) ∧ W'.cell? ⟨b, o + k * 3 + 2, none⟩ = some (.int .u8 re) from
          ⟨(hW.cell (p := ⟨b, o + k * 3, none⟩) hbl).trans (hcell 0 _ rfl), (hW.cell (p := ⟨b, o + k * 3 + 1, none⟩) hbl).trans (hcell 1 _ rfl), (hW.cell (p := ⟨b, o + k * 3 + 2, none⟩) hbl).trans (hcell 2 _ rfl)⟩))
        obtain ⟨d0, d1, d2⟩ := HS0.out wo hb
        clear hcell hgd hx
        obtain ⟨q, hq⟩ : ∃ q, k / 2 = q := ⟨_, rfl⟩
        obtain ⟨r2, hr2⟩ : ∃ r, k % 2 = r := ⟨_, rfl⟩
        obtain ⟨r4, hr4⟩ : ∃ r, re % 4 = r := ⟨_, rfl⟩
        obtain ⟨s4, hs4⟩ : ∃ r, si % 4 = r := ⟨_, rfl⟩
        obtain ⟨bi, hbi⟩ : ∃ r, be % len = r := ⟨_, rfl⟩
        obtain ⟨a, ha⟩ : ∃ r, k % 4 = r := ⟨_, rfl⟩
        have hbil : bi < len := by rw [← hbi]; exact Nat.mod_lt _ hpos
        have m1 : Int.tdiv (k : Int) 2 = (q : Int) := by rw [Int.tdiv_eq_ediv_of_nonneg (by omega), ← hq]; rfl
        have m2 : Int.tmod (k : Int) 2 = (r2 : Int) := by rw [Int.tmod_eq_emod_of_nonneg (by omega), ← hr2]; rfl
        have m3 : Int.tmod (re : Int) 4 = (r4 : Int) := by rw [Int.tmod_eq_emod_of_nonneg (by omega), ← hr4]; rfl
        have m4 : Int.tmod (si : Int) 4 = (s4 : Int) := by rw [Int.tmod_eq_emod_of_nonneg (by omega), ← hs4]; rfl
        have m5 : Int.tmod (be : Int) (len : Int) = (bi : Int) := by rw [Int.tmod_eq_emod_of_nonneg (by omega), ← hbi]; rfl
        have m6 : Int.tmod (k : Int) 4 = (a : Int) := by rw [Int.tmod_eq_emod_of_nonneg (by omega), ← ha]; rfl
        have w1 : IntKind.i64.wrap (be : Int) = be := IntWalk.i64_in _ (by omega)
        have w2 : IntKind.i64.wrap (si : Int) = si := IntWalk.i64_in _ (by omega)
        have w3 : IntKind.i64.wrap (re : Int) = re := IntWalk.i64_in _ (by omega)
        obtain ⟨tT, htT⟩ : ∃ z, q + 1 = z := ⟨_, rfl⟩
        obtain ⟨f4, hf4⟩ : ∃ z, r2 * 4 = z := ⟨_, rfl⟩
        obtain ⟨f5, hf5⟩ : ∃ z, f4 + 1 = z := ⟨_, rfl⟩
        obtain ⟨tR, htR⟩ : ∃ z, f5 + r4 = z := ⟨_, rfl⟩
        obtain ⟨nn, hnn⟩ : ∃ z, 1 + s4 = z := ⟨_, rfl⟩
        obtain ⟨ee, hee⟩ : ∃ z, a + nn = z := ⟨_, rfl⟩
        have a1 : IntKind.i64.wrap ((q : Int) + 1) = (tT : Int) := by rw [IntWalk.i64_in _ (by omega)]; omega
        have a2 : IntKind.i64.wrap ((r2 : Int) * 4) = (f4 : Int) := by rw [IntWalk.i64_in _ (by omega)]; omega
        have a3 : IntKind.i64.wrap ((f4 : Int) + 1) = (f5 : Int) := by rw [IntWalk.i64_in _ (by omega)]; omega
        have a4 : IntKind.i64.wrap ((f5 : Int) + (r4 : Int)) = (tR : Int) := by rw [IntWalk.i64_in _ (by omega)]; omega
        have a5 : IntKind.i64.wrap (1 + (s4 : Int)) = (nn : Int) := by rw [IntWalk.i64_in _ (by omega)]; omega
        have a6 : IntKind.i64.wrap ((a : Int) + (nn : Int)) = (ee : Int) := by rw [IntWalk.i64_in _ (by omega)]; omega
        have hid0 : idC (gId k ⟨be, si, re, hbe, hsi, hre⟩ 0) = [.int .i64 (tT : Int), .int .i64 (tR : Int), .int .i64 0] := by
          unfold idC gId gS
          dsimp only
          rw [show k % 16 / 2 + 1 = tT by omega, show k % 2 * 4 + 1 + re % 4 = tR by omega]
          rfl
        have hgn : gN ⟨be, si, re, hbe, hsi, hre⟩ = nn := by unfold gN; dsimp only; omega
        have i1 : (0 : Int) ≤ (k : Int) := by omega
        have i2 : (k : Int) < (L.length : Int) := by omega
        have i3 : (0 : Int) ≤ (bi : Int) := by omega
        have i4 : (bi : Int) < (len : Int) := by omega
        have i5 : ¬ len = 0 := by omega
        have j1 : (0 : Int) ≤ (a : Int) := by omega
        have j2 : (a : Int) ≤ (ee : Int) := by omega
        have j3 : (ee : Int) ≤ 8 := by omega
        obtain ⟨g2, c2', R2, e2, hg2b, _, _, _, _, _⟩ := own_parts HI.out hpos
        injection e2 with e2 e3 e4
        subst e2; subst e4
        obtain ⟨y, hy⟩ : ∃ y, (idsAt L k)[bi]'(by rw [HLEN.out]; exact hbil) = y := ⟨_, rfl⟩
        have hyc : ∀ (j : Nat) (v : Value), (idC y)[j]? = some v → ((idsAt L k).flatMap idC)[bi * 3 + j]? = some v := fun j v hv => by
          have hj : j < 3 := by have := (List.getElem?_eq_some_iff.1 hv).1; exact this
          rw [flat_at idC 3 (fun _ => rfl) (idsAt L k) bi (by rw [HLEN.out]; exact hbil) j hj, hy]
          exact hv
        have HY := Lib.hid hy
        have HYC := Lib.hid hyc
        have hwx : wo.heap.size < (wo.alloc (.cells #[.int .i64 (tT : Int), .int .i64 (tR : Int), .int .i64 0] 26)).heap.size := by simp
        obtain ⟨W1, hW1⟩ : ∃ W, wo.alloc (.cells #[.int .i64 (tT : Int), .int .i64 (tR : Int), .int .i64 0] 26) = W := ⟨_, rfl⟩
        have hb1 : Below w.heap.size w W1 := by rw [← hW1]; exact hb.alloc hb.size _
        have hbx : W1.heap[wo.heap.size]? = some (.cells #[.int .i64 (tT : Int), .int .i64 (tR : Int), .int .i64 0] 26 (0, 0)) := by rw [← hW1]; exact heap_alloc_new wo _
        have hO1 : W1.ownsRow w.heap.size 28 7 (.slice A1 k c1) k ((runsAt L k).flatMap rnC) := by rw [← hW1]; exact HO.out.alloc _
        have hI1 : W1.ownsRow w.heap.size 26 3 (.slice (some ⟨g2, 0, none⟩) len c2) len ((idsAt L k).flatMap idC) := by rw [← hW1]; exact HI.out.alloc _
        have hg2o : g2 < wo.heap.size := (HI.out.lt g2 rfl).2
        rw [hW1] at hwx
        have HW1 := Lib.hid hW1
        obtain ⟨bx, hbxe⟩ : ∃ z, wo.heap.size = z := ⟨_, rfl⟩
        rw [hbxe] at hbx hwx hg2o
        have HBX := Lib.hid hbxe
        have HS1 := Lib.hid (fun W' (hW : Below W1.heap.size W1 W') => (show (W'.cell? ⟨b, o + k * 3, none⟩ = some (.int .u8 be) ∧ W'.cell? ⟨b, o + k * 3 + 1, none⟩ = some (.int .u8 si)) ∧ (W'.cell? ⟨g2, bi * 3, none⟩ = some (.int .i64 y.s.T) ∧ W'.cell? ⟨g2, bi * 3 + 1, none⟩ = some (.int .i64 y.s.R) ∧ W'.cell? ⟨g2, bi * 3 + 2, none⟩ = some (.int .i64 y.I)) ∧ (W'.cell? ⟨bx, 0, none⟩ = some (.int .i64 tT) ∧ W'.cell? ⟨bx, 1, none⟩ = some (.int .i64 tR) ∧ W'.cell? ⟨bx, 2, none⟩ = some (.int .i64 0)) from by
          have h0 := HS0.out W' (hb1.trans (hW.mono hb1.size))
          have hg2l : g2 < W1.heap.size := (hI1.lt g2 rfl).2
          have hrow : ∀ (j : Nat) (v : Value), (idC y)[j]? = some v → W'.cell? ⟨g2, bi * 3 + j, none⟩ = some v := fun j v hv => (hW.cell (p := ⟨g2, bi * 3 + j, none⟩) hg2l).trans (own_cell hI1 _ _ (hyc j v hv)).1
          exact ⟨⟨h0.1, h0.2.1⟩, ⟨hrow 0 _ rfl, hrow 1 _ rfl, hrow 2 _ rfl⟩, ⟨(hW.cell (p := ⟨bx, 0, none⟩) hwx).trans (cell_of_row _ _ 0 _ _ _ hbx), (hW.cell (p := ⟨bx, 1, none⟩) hwx).trans (cell_of_row _ _ 1 _ _ _ hbx), (hW.cell (p := ⟨bx, 2, none⟩) hwx).trans (cell_of_row _ _ 2 _ _ _ hbx)⟩⟩))
        obtain ⟨⟨f0, f1⟩, ⟨f2, f3, f4'⟩, ⟨f5', f6, f7⟩⟩ := HS1.out W1 (Below.refl _ _)
        have HO1 := Lib.hid hO1
        have HI1 := Lib.hid hI1
        have HB1 := Lib.hid hb1
        have HBXH := Lib.hid hbx
        have HX := Lib.hid (ext8 (a := a) (n := nn) (by omega) (by omega) (by omega))
        have HID0 := Lib.hid hid0
        have HGN := Lib.hid hgn
        clear hO1 hI1 hyc hy hb1 hbx d0 d1 hW1 hid0 hgn e3
        have HS2 := Lib.hid (fun W' (hW : Below W1.heap.size W1.drew W') => HS1.out W' ((Below.refl _ W1).drew.trans hW))
        have k1 : Below W1.heap.size W1.drew W1.drew := Below.refl _ _
        have hwW1 : w.heap.size ≤ W1.heap.size := HB1.out.size
        go_wp2_with (rw [show wo.alloc (.cells #[.int .i64 (tT : Int), .int .i64 (tR : Int), .int .i64 0] 26) = W1 from HW1.out])
        go_region_held3 (fun W' => (W'.cell? ⟨b, o + k * 3, none⟩ = some (.int .u8 be) ∧ W'.cell? ⟨b, o + k * 3 + 1, none⟩ = some (.int .u8 si)) ∧ (W'.cell? ⟨g2, bi * 3, none⟩ = some (.int .i64 y.s.T) ∧ W'.cell? ⟨g2, bi * 3 + 1, none⟩ = some (.int .i64 y.s.R) ∧ W'.cell? ⟨g2, bi * 3 + 2, none⟩ = some (.int .i64 y.I)) ∧ (W'.cell? ⟨bx, 0, none⟩ = some (.int .i64 tT) ∧ W'.cell? ⟨bx, 1, none⟩ = some (.int .i64 tR) ∧ W'.cell? ⟨bx, 2, none⟩ = some (.int .i64 0)))
            (first | exact HS2.out _ (by assumption) | exact hS6 | go_keep)
            (first
              | (refine step_append_lies _ (by rfl) _ _ _ (by rfl) w.heap.size 28 j0 _ 7 64 Tryd.underlying22 gi gz0 gz1 gz2 rfl (by omega) _ k _ (by rfl) ((own_drew' HO1.out).alloc _) ⟨W1.heap.size, 0, none⟩ 1 1 [.int .i64 y.s.T, .int .i64 y.s.R, .int .i64 y.I, .int .i64 (tT : Int), .int .i64 (tR : Int), .int .i64 0, .string (ByteArray.extract ⟨#[97, 98, 99, 100, 101, 102, 103, 104]⟩ a ee)] (by rfl) (by rfl) (cells_new W1.drew [.int .i64 y.s.T, .int .i64 y.s.R, .int .i64 y.I, .int .i64 (tT : Int), .int .i64 (tR : Int), .int .i64 0, .string (ByteArray.extract ⟨#[97, 98, 99, 100, 101, 102, 103, 104]⟩ a ee)] 28) (by simp [Value.oneCell']) (by omega) (by unfold maxLen; omega) (by omega) (by simp; omega) _ (by rfl) ?_
                 intro gg capg W6 hown2 hgrow2 hat2 hgl2
                 have hb6 : Below w.heap.size w W6 := (HB1.out.drew.alloc hwW1 _).grown hgrow2 (by simp; omega) (fun j hj => (HO1.out.lt j hj).1)
                 have hx6 : W6.heap[bx]? = some (.cells #[.int .i64 (tT : Int), .int .i64 (tR : Int), .int .i64 0] 26 (0, 0)) :=
                   (hgrow2.block bx (by simp; omega) (fun e => by
                     have e1 := row_cells HO1.out e.symm
                     obtain ⟨cur, e1⟩ := e1
                     rw [HBXH.out] at e1
                     simp at e1)).trans ((Below.heap_alloc _ _ _ hwx).trans HBXH.out)
                 have hI6 : W6.ownsRow w.heap.size 26 3 (.slice (some ⟨g2, 0, none⟩) len c2) len ((idsAt L k).flatMap idC) :=
                   ((own_drew' HI1.out).alloc _).kept hgrow2 (apart_kind HI1.out HO1.out (by decide))
                 have hS6 : (W6.cell? ⟨b, o + k * 3, none⟩ = some (.int .u8 be) ∧ W6.cell? ⟨b, o + k * 3 + 1, none⟩ = some (.int .u8 si)) ∧ (W6.cell? ⟨g2, bi * 3, none⟩ = some (.int .i64 y.s.T) ∧ W6.cell? ⟨g2, bi * 3 + 1, none⟩ = some (.int .i64 y.s.R) ∧ W6.cell? ⟨g2, bi * 3 + 2, none⟩ = some (.int .i64 y.I)) ∧ (W6.cell? ⟨bx, 0, none⟩ = some (.int .i64 tT) ∧ W6.cell? ⟨bx, 1, none⟩ = some (.int .i64 tR) ∧ W6.cell? ⟨bx, 2, none⟩ = some (.int .i64 0)) := by
                   have h0 := HS0.out W6 hb6
                   have hrow : ∀ (j : Nat) (v : Value), (idC y)[j]? = some v → W6.cell? ⟨g2, bi * 3 + j, none⟩ = some v := fun j v hv => (own_cell hI6 _ _ (HYC.out j v hv)).1
                   exact ⟨⟨h0.1, h0.2.1⟩, ⟨hrow 0 _ rfl, hrow 1 _ rfl, hrow 2 _ rfl⟩, ⟨cell_of_row _ _ 0 _ _ _ hx6, cell_of_row _ _ 1 _ _ _ hx6, cell_of_row _ _ 2 _ _ _ hx6⟩⟩))
        have hrun : rnC (runAt L k) = [.int .i64 y.s.T, .int .i64 y.s.R, .int .i64 y.I, .int .i64 (tT : Int), .int .i64 (tR : Int), .int .i64 0, .string (ByteArray.extract ⟨#[97, 98, 99, 100, 101, 102, 103, 104]⟩ a ee)] := by
          have e1 : (idsAt L k).getD (be % (idsAt L k).length) zeroI = y := by
            rw [HLEN.out, hbi, List.getD_eq_getElem?_getD, List.getElem?_eq_getElem (by rw [HLEN.out]; exact hbil), HY.out]
            rfl
          have e2 : ofL (gT k nn) = ByteArray.extract ⟨#[97, 98, 99, 100, 101, 102, 103, 104]⟩ a ee := by
            rw [← hee, HX.out, ← ha]
            rfl
          have e3 := HID0.out
          unfold idC at e3
          simp only [List.cons.injEq, and_true] at e3
          unfold runAt rnC
          rw [HGD.out]
          dsimp only
          rw [e1, HGN.out, e2, e3.1, e3.2.1, e3.2.2]
        have HU6 := Lib.hid (show W6.ownsRow w.heap.size 28 7 (.slice (some ⟨gg, 0, none⟩) (k + 1) capg) (k + 1) ((runsAt L (k + 1)).flatMap rnC) by rw [runsAt, List.flatMap_append, List.flatMap_singleton, hrun]; exact hown2)
        have HI6 := Lib.hid hI6
        have HX6 := Lib.hid hx6
        have HB6 := Lib.hid hb6
        have hgidm : ∀ m : Nat, m ≤ nn → idC (gId k (L.getD k zeroP) m) = [.int .i64 (tT : Int), .int .i64 (tR : Int), .int .i64 (m : Int)] := fun m hm => by
          have e3 := HID0.out
          unfold idC at e3 ⊢
          simp only [List.cons.injEq, and_true] at e3
          rw [HGD.out]
          show [Value.int .i64 (gId k _ 0).s.T, Value.int .i64 (gId k _ 0).s.R, _] = _
          rw [e3.1, e3.2.1]
          unfold gId
          dsimp only
          rw [show m % 8 = m by omega]
        have HGM := Lib.hid hgidm
        have HGL := Lib.hid (show gN (L.getD k zeroP) = nn by rw [HGD.out]; exact HGN.out)
        clear hown2 hgrow2 hat2 hgl2 hI6 hS6 hb6 hx6 hrun k1 f0 f1 f2 f3 f4' f5' f6 f7 m1 m2 m3 m4 m5 m6 w1 w2 w3 a1 a2 a3 a4 a5 a6 i3 i4 i5 j1 j2 j3 hgidm
        go_wp2
        go_loopw [4, 8] (fun is j wr => GrIn L k bx w (.slice (some ⟨gg, 0, none⟩) (k + 1) capg) is j wr) (fun _ j _ => nn - (intOf j).toNat)
        case atStart =>
          refine ⟨0, len, HLEN.out, Nat.zero_le _, rfl, HU6.out, ?_, ?_, ?_, HB6.out⟩
          · rw [List.range'_zero, List.map_nil, List.append_nil]; exact HI6.out
          · intro e; simp [Value.ownBlock] at e; omega
          · rw [HGM.out 0 (Nat.zero_le _)]; exact HX6.out
        case round =>
          obtain ⟨m, len', hl', hm, rfl, hO, hI, hne, hx', hb'⟩ := hrel
          rw [HGL.out] at hm
          obtain ⟨A5, c5, rfl, hLc5, hcm5⟩ := (Rd.of_own hI).form
          obtain ⟨wq, rfl⟩ : ∃ wq : World, wq = wr := ⟨_, rfl⟩
          rw [HGM.out 0 (Nat.zero_le _)] at hx'
          obtain ⟨XS, hXS⟩ : ∃ XS, (idsAt L k ++ (List.range' 0 m).map (gId k (L.getD k zeroP))).flatMap idC = XS := ⟨_, rfl⟩
          rw [hXS] at hI
          have HOq := Lib.hid hO
          have HIq := Lib.hid hI
          have HXS := Lib.hid hXS
          clear hXS
          have HNE := Lib.hid hne
          have HXq := Lib.hid hx'
          have HBq := Lib.hid hb'
          have HLq := Lib.hid hl'
          have hlen5 : len' ≤ 100 := by have := HLEN.out; omega
          clear hO hI hne hb' hl'
          by_cases hmn : m < nn
          · have c0 : wq.cell? ⟨bx, 0, none⟩ = some (.int .i64 (tT : Int)) := cell_of_row _ _ 0 _ _ _ hx'
            have c1 : wq.cell? ⟨bx, 1, none⟩ = some (.int .i64 (tR : Int)) := cell_of_row _ _ 1 _ _ _ hx'
            clear hx'
            go_wp2_with (at_builtin; refine wpList_append_own_at _ rfl _ _ 31 rfl w.heap.size 26 i0 _ 3 24 Tryd.underlying31 hi hz0 hz1 hz2 rfl (by decide) _ _ _ rfl (HIq.out.alloc _) ⟨wq.heap.size, 0, none⟩ 1 1 [.int .i64 (tT : Int), .int .i64 (tR : Int), .int .i64 (m : Int)] rfl rfl (cells_new wq [.int .i64 (tT : Int), .int .i64 (tR : Int), .int .i64 (m : Int)] 26) (by simp [Value.oneCell']) (by unfold maxLen; omega) (by omega) (by have := HBq.out.size; simp; omega) ?_)
            intro v7 W7 hown7 hgrow7 _ hat7
            have hbxq := (Array.getElem?_eq_some_iff.1 HXq.out).1
            have hO7 := (HOq.out.alloc (.cells #[.int .i64 (tT : Int), .int .i64 (tR : Int), .int .i64 (m : Int)] 26)).kept hgrow7 (apart_kind HOq.out HIq.out (by decide))
            have hx7 : W7.heap[bx]? = some (.cells #[.int .i64 (tT : Int), .int .i64 (tR : Int), .int .i64 0] 26 (0, 0)) :=
              (hgrow7.block bx (by simp; omega) (fun e => HNE.out e.symm)).trans ((Below.heap_alloc _ _ _ hbxq).trans HXq.out)
            have hb7 : Below w.heap.size w W7 := (HBq.out.alloc HBq.out.size _).grown hgrow7 (by have := HBq.out.size; simp; omega) (fun j hj => (HIq.out.lt j hj).1)
            have hne7 : v7.ownBlock ≠ some bx := by
              rcases hat7 with h | h
              · rw [h]; exact HNE.out
              · rw [h]; intro e; injection e with e; have hsz := World.size_alloc wq (.cells #[.int .i64 (tT : Int), .int .i64 (tR : Int), .int .i64 (m : Int)] 26); omega
            have hI7 : W7.ownsRow w.heap.size 26 3 v7 (len' + 1) ((idsAt L k ++ (List.range' 0 (m + 1)).map (gId k (L.getD k zeroP))).flatMap idC) := by
              rw [List.range'_1_concat, List.map_append, ← List.append_assoc, List.flatMap_append, List.map_singleton, List.flatMap_singleton, Nat.zero_add, HGM.out m (by omega), HXS.out]
              exact hown7
            have HO7 := Lib.hid hO7
            have HI7 := Lib.hid hI7
            have HX7 := Lib.hid hx7
            have HB7 := Lib.hid hb7
            have HNE7 := Lib.hid hne7
            clear hown7 hgrow7 hat7 hO7 hI7 hx7 hb7 hne7 c0 c1
            go_wp2
            go_roundw
            case rel => exact ⟨m + 1, len' + 1, by have := HLq.out; omega, by rw [HGL.out]; omega, by go_num, HO7.out, HI7.out, HNE7.out, by rw [HGM.out 0 (Nat.zero_le _)]; exact HX7.out, HB7.out⟩
            case measure => simp [intOf]; omega
          · obtain rfl : m = nn := by omega
            clear hx'
            go_wp2
            go_roundw
            case rel =>
              refine ⟨k + 1, len', ?_, by omega, by go_num, HOq.out, ?_, HBq.out⟩
              · rw [idsAt, List.length_append, gIds_len, HGL.out]; exact HLq.out
              · have := HIq.out
                rw [idsAt]
                unfold gIds
                rw [HGL.out, HXS.out]
                exact this
            case measure => simp [intOf]; omega
      · have HL15 := Lib.hid (show min L.length 15 = k by have := HK.out; omega)
        have hkge : (15 : Int) ≤ (k : Int) := by omega
        go_wp2
        go_ret
        unfold GrPost
        rw [HL15.out]
        exact ⟨_, rfl, HO.out, hb⟩
    · have HL15 := Lib.hid (show min L.length 15 = k by have := HK.out; omega)
      have hkge : (L.length : Int) ≤ (k : Int) := by omega
      go_wp2
      go_ret
      unfold GrPost
      rw [HL15.out]
      exact ⟨_, rfl, HO.out, hb⟩
end Go.Proofs.YtphapjbfaomblaaDoor
/- A sheet: a grown run is added; law11's id. -/
namespace Go.Proofs.YtphapjbfaomblaaDoor
open Go Go.RowKit Go.Maps Go.ChangeMaps
theorem lid_any (t r i : Int) (w : World) : Calls Tryd.prog 45 #[.int .i64 t, .int .i64 r, .int .i64 i] w fun e w' => e = .returned (.agg #[.int .i64 t, .int .i64 r, .int .i64 i]) ∧ Below w.heap.size w w' := by
  go_enter Tryd.func45, Tryd.ntmps45
  go_wp2
  refine bodyPost_ret (results_cell_row rfl _ _ w.heap.size 26 #[.int .i64 t, .int .i64 r, .int .i64 i] (0, 0) _ rfl (heap_alloc_new w _) Tryd.underlying26 rfl (by kernel_rfl)) rfl ⟨rfl, (Below.refl _ w).alloc (Nat.le_refl _) _⟩
def gPs (k m : Nat) : List (List UInt8) := (List.range' 0 m).map (fun t => [gB k t])
theorem gPs_all (k m : Nat) : AllP (gPs k m) := fun q hq => by
  obtain ⟨t, _, rfl⟩ := List.mem_map.1 hq
  exact isP_ascii (gB_ascii k t)
theorem gPs_flat (k m : Nat) : (gPs k m).flatten = gT k m := by
  unfold gT gPs
  induction (List.range' 0 m) with
  | nil => rfl
  | cons a l ih => rw [List.map_cons, List.map_cons, List.flatten_cons, ih]; rfl
theorem gPs_len (k m : Nat) : (gPs k m).length = m := by simp [gPs]
theorem nthI_g (i : Nat) (p : Pick) : ∀ j, j ≤ 7 → nthI (gId i p 0) j = gId i p j
  | 0, _ => rfl
  | j + 1, h => by
    show nextI (nthI (gId i p 0) j) = _
    rw [nthI_g i p j (by omega), nextI_g i p (by omega)]
theorem g_fresh (L : List Pick) {k : Nat} (hk : k < 15) (j : Nat) : gId k (L.getD k zeroP) j ≠ zeroI ∧ gId k (L.getD k zeroP) j ∉ (flatAt L k).map El.id := by
  refine ⟨fun h => ?_, fun h => ?_⟩
  · have := zero_lt_g k (L.getD k zeroP) j
    rw [h] at this
    exact idSTO.irrefl _ this
  · have h1 : gId k (L.getD k zeroP) j ∈ idsAt L k := by rw [idsAt_flat]; exact List.mem_cons_of_mem _ h
    rcases idsAt_form L k _ h1 with h2 | ⟨i, s, hi, h2⟩
    · have := zero_lt_g k (L.getD k zeroP) j
      rw [h2] at this
      exact idSTO.irrefl _ this
    · have := gId_lt_run i k (L.getD i zeroP) (L.getD k zeroP) s j hi (by omega)
      rw [← h2] at this
      exact idSTO.irrefl _ this
section
variable {w0 w w' : World} {P P' : Nat → Prop} {p : Loc} {c : Nat} {O : List Nd} {on : Stamp → Int} {gn : Id → Int}
theorem Sht.addG {L : List Pick} {k : Nat} (h : Sht w0 P p c (flatAt L k) O on gn w) (hk : k < 15) (hT : Tabs w) (hc : c ≤ 3000) :
    Calls Tryd.prog 23 #[.pointer (some ⟨p.sh, 0, none⟩), rnU (runAt L k)] w fun e w' => e = .returned (.int .i64 0) ∧ (∃ O', Sht w0 P p (c + 4) (flatAt L (k + 1)) O' on gn w') ∧ Tch w0 P w w' := by
  have hm : 1 ≤ gN (L.getD k zeroP) ∧ gN (L.getD k zeroP) ≤ 4 := by unfold gN; omega
  have hl := gPs_len k (gN (L.getD k zeroP))
  have hfl := gPs_flat k (gN (L.getD k zeroP))
  have hgl := gT_len k (gN (L.getD k zeroP))
  refine (h.add (runAt L k) (gPs k (gN (L.getD k zeroP))) (gPs_all _ _) (by rw [hfl]; rfl) (by rw [hl]; omega) (by rw [hfl, hgl]; omega) hT (by rw [hl]; omega) ?_ (fun j hj => ?_) (fun i j hij hj => ?_)).mono ?_
  · have h1 : (runAt L k).af ∈ idsAt L k := by
      have hp := idsAt_pos L k
      show (idsAt L k).getD _ zeroI ∈ _
      rw [List.getD_eq_getElem?_getD, List.getElem?_eq_getElem (Nat.mod_lt _ hp)]
      exact List.getElem_mem _
    rw [idsAt_flat] at h1
    exact (List.mem_cons.1 h1).imp id id
  · rw [hl] at hj
    show nthI (gId k (L.getD k zeroP) 0) j ≠ zeroI ∧ nthI (gId k (L.getD k zeroP) 0) j ∉ _
    rw [nthI_g _ _ j (by omega)]
    exact g_fresh L hk j
  · rw [hl] at hj
    show nthI (gId k (L.getD k zeroP) 0) i ≠ nthI (gId k (L.getD k zeroP) 0) j
    rw [nthI_g _ _ j (by omega), nthI_g _ _ i (by omega)]
    intro e
    have := gId_lt k (L.getD k zeroP) i j hij (by omega)
    rw [e] at this
    exact idSTO.irrefl _ this
  · rintro e w' ⟨rfl, ⟨O', hS⟩, ht⟩
    have hf : flatAt L k ++ flatOf (runAt L k).af (runAt L k).el (gPs k (gN (L.getD k zeroP))) = flatAt L (k + 1) := by
      rw [flatAt_succ]
      congr 1
      exact flatOf_g k _ _ 0 _ (by omega)
    rw [hf] at hS
    exact ⟨rfl, ⟨O', hS.more (by omega)⟩, ht⟩
end
end Go.Proofs.YtphapjbfaomblaaDoor
/- law11's made. -/
namespace Go.Proofs.YtphapjbfaomblaaDoor
open Go Go.RowKit Go.Maps Go.ChangeMaps
def onAt (L : List Pick) : Nat → Stamp → Int
  | 0 => fun _ => 0
  | k + 1 => onT (onAt L k) (gS k (L.getD k zeroP)) 1
def MaRel (L : List Pick) (w : World) (P' : Nat → Prop) (p : Loc) (b N : Nat) (v : Value) (i : Value) (wr : World) : Prop :=
  ∃ k : Nat, k ≤ N ∧ i = .int .i64 k ∧ (∃ O, Sht w P' p (5 * k) (flatAt L k) O (onAt L k) (fun _ => 0) wr) ∧ wr.ownsRow b 28 7 v N ((runsAt L N).flatMap rnC)
set_option maxRecDepth 100000 in
set_option maxHeartbeats 8000000 in
theorem made_any (L : List Pick) (A : Option Addr) (n c B : Nat) (w : World) (hR : Rd w B 3 (.slice A n c) n (L.flatMap pickC)) (hB : B ≤ w.heap.size) (hT : Tabs w) :
    Calls Tryd.prog 33 #[.slice A n c] w fun e w' => ∃ p, e = .returned (.tuple #[.pointer (some ⟨Loc.sh p, 0, none⟩), .int .i64 (min L.length 15 : Nat)]) ∧
      ∃ O, Sht w (fun _ => False) p 75 (flatAt L (min L.length 15)) O (onAt L (min L.length 15)) (fun _ => 0) w' := by
  have HR := Lib.hid (fun W (hW : Below w.heap.size w W) => hR.below' hW hB)
  have HT := Lib.hid (fun W (hW : Below w.heap.size w W) => hT.below hW)
  clear hR hT
  obtain ⟨N, hN⟩ : ∃ N, min L.length 15 = N := ⟨_, rfl⟩
  have hN15 : N ≤ 15 := by omega
  rw [hN]
  have HN := Lib.hid hN
  clear hN
  go_enter Tryd.func33, Tryd.ntmps33
  go_wp2_with (first
    | (go_at_call 22; refine (Sht.new (w0 := w) (P := fun _ => False) (Below.refl _ w) (fun _ h => h.elim)).mono ?_; rintro e w1 ⟨p, rfl, hS1, hb1⟩; have HS1 := Lib.hid hS1; have HB1 := Lib.hid hb1; clear hS1 hb1)
    | (go_at_call 15; refine (grown_any L A n c B w1 (HR.out w1 HB1.out) (Nat.le_trans hB HB1.out.size)).mono ?_; rintro e w2 ⟨v, rfl, hown, hb2⟩; rw [HN.out] at hown; obtain ⟨A2, c2, rfl, hnc, hcm⟩ := (Rd.of_own hown).form; unfold maxLen at hcm; have HOWN := Lib.hid hown; have HB2 := Lib.hid hb2; clear hown hb2))
  have hst : MaRel L w (fun k => w1.heap.size ≤ k ∧ k < w2.heap.size) p w1.heap.size N (.slice A2 N c2) (.int .i64 0) w2 := ⟨0, Nat.zero_le _, rfl, ⟨[], HS1.out.go (Below.touch HB2.out _) (fun k hk => .inr hk)⟩, HOWN.out⟩
  have HST := Lib.hid hst
  have HPW := Lib.hid (fun g (hg : (Value.slice A2 N c2).ownBlock = some g) => HOWN.out.lt g hg)
  clear hst
  go_loopw [6] (fun i wr => MaRel L w (fun k => w1.heap.size ≤ k ∧ k < w2.heap.size) p w1.heap.size N (.slice A2 N c2) i wr) (fun i _ => N - (intOf i).toNat)
  case atStart => exact HST.out
  case round =>
    clear HST
    obtain ⟨k, hk, rfl, ⟨O, hS⟩, hO⟩ := hrel
    obtain ⟨wo, rfl⟩ : ∃ wo : World, wo = wr := ⟨_, rfl⟩
    by_cases hlt : k < N
    · obtain ⟨gr, og, rfl, hBr, hcell⟩ := rd_at rnC 7 (fun _ => rfl) (by decide) (Rd.of_own hO) (show k < (runsAt L N).length by rw [runsAt_len]; exact hlt)
      rw [runsAt_get] at hcell
      have hadd := hS.addG (by omega) (HT.out wo hS.out) (by omega)
      obtain ⟨r, hr⟩ : ∃ r, runAt L k = r := ⟨_, rfl⟩
      have hel : gS k (L.getD k zeroP) = r.el.s := by rw [← hr]; rfl
      rw [hr] at hcell hadd
      unfold rnU at hadd
      have d0 : wo.cell? ⟨gr, og + k * 7, none⟩ = some (.int .i64 r.af.s.T) := hcell 0 _ rfl
      have d1 : wo.cell? ⟨gr, og + k * 7 + 1, none⟩ = some (.int .i64 r.af.s.R) := hcell 1 _ rfl
      have d2 : wo.cell? ⟨gr, og + k * 7 + 2, none⟩ = some (.int .i64 r.af.I) := hcell 2 _ rfl
      have d3 : wo.cell? ⟨gr, og + k * 7 + 3, none⟩ = some (.int .i64 r.el.s.T) := hcell 3 _ rfl
      have d4 : wo.cell? ⟨gr, og + k * 7 + 4, none⟩ = some (.int .i64 r.el.s.R) := hcell 4 _ rfl
      have d5 : wo.cell? ⟨gr, og + k * 7 + 5, none⟩ = some (.int .i64 r.el.I) := hcell 5 _ rfl
      have d6 : wo.cell? ⟨gr, og + k * 7 + 6, none⟩ = some (.string r.tx) := hcell 6 _ rfl
      have i1 : (0 : Int) ≤ (k : Int) := by omega
      have i2 : (k : Int) < (N : Int) := by omega
      have HADD := Lib.hid hadd
      have HO := Lib.hid hO
      have HEL := Lib.hid hel
      have HRR := Lib.hid hr
      have HLT := Lib.hid hlt
      clear hadd hO hcell hel hr hS
      go_wp2_with (first
        | (go_at_call 23; refine HADD.out.mono ?_; rintro e w6 ⟨rfl, ⟨O6, hS6⟩, ht6⟩; have hO6 := own_touch HO.out ht6 (fun g hg h => h.2 (HPW.out g hg)); obtain ⟨_, _, e6, _, hcell6⟩ := rd_at rnC 7 (fun _ => rfl) (by decide) (Rd.of_own hO6) (show k < (runsAt L N).length by rw [runsAt_len]; exact HLT.out); injection e6 with e6; injection e6 with e7 e8; subst e7; subst e8; rw [runsAt_get, HRR.out] at hcell6; have f3 : w6.cell? ⟨gr, og + k * 7 + 3, none⟩ = some (.int .i64 r.el.s.T) := hcell6 3 _ rfl; have f4 : w6.cell? ⟨gr, og + k * 7 + 3 + 1, none⟩ = some (.int .i64 r.el.s.R) := hcell6 4 _ rfl; have HS6 := Lib.hid hS6; have HO6 := Lib.hid hO6; clear hS6 hO6 ht6 hcell6)
        | (go_at_call 25; have hset := HS6.out.set r.el.s true (by omega); unfold stV at hset; refine hset.mono ?_; rintro e w7 ⟨⟨_, rfl⟩, hS7, ht7⟩; have HREL := Lib.hid (show MaRel L w (fun k => w1.heap.size ≤ k ∧ k < w2.heap.size) p w1.heap.size N (.slice (some ⟨gr, og, none⟩) N c2) (.int .i64 ((k : Int) + 1)) w7 from ⟨k + 1, HLT.out, rfl, ⟨O6, by have := hS7.more (c' := 5 * (k + 1)) (by omega); rw [if_pos rfl, ← HEL.out] at this; exact this⟩, own_touch HO6.out ht7 (fun g hg h => h.2 (HPW.out g hg))⟩); clear hset hS7 ht7))
      go_roundw
      case rel => exact HREL.out
      case measure => have := HLT.out; simp [intOf]; omega
    · obtain rfl : k = N := by omega
      have HF := Lib.hid (show ∃ O, Sht w (fun _ => False) p 75 (flatAt L k) O (onAt L k) (fun _ => 0) wo from ⟨O, (hS.go (Touch.refl _ _) (fun _ h => h.elim)).more (by omega)⟩)
      clear hS hO
      go_wp2
      go_ret2
      exact ⟨_, rfl, HF.out⟩
end Go.Proofs.YtphapjbfaomblaaDoor
/- SheetReturns, plain: what the counts come to. -/
namespace Go.Proofs.YtphapjbfaomblaaDoor
open Go
def cg (xs : List Id) : Id → Int := fun x => (xs.count x : Int)
theorem cg_nil : cg [] = fun _ => 0 := rfl
theorem cg_snoc (xs : List Id) (x : Id) : gnT (cg xs) x 1 = cg (xs ++ [x]) := by
  funext y
  unfold gnT cg
  rw [List.count_append, List.count_singleton]
  by_cases h : y = x
  · subst h; simp
  · have : ¬ x = y := fun e => h e.symm
    simp [h, this]
theorem gnT_twice (g : Id → Int) (x : Id) : gnT (gnT (gnT g x 1) x 1) x (-1) = gnT g x 1 := by
  funext y
  unfold gnT
  by_cases h : y = x
  · simp [h]; omega
  · simp [h]
def cgB (xs : List Id) (k : Nat) : Id → Int := fun x => cg xs x - cg (xs.take k) x
theorem cgB_zero (xs : List Id) : cgB xs 0 = cg xs := by
  funext x
  simp [cgB, cg]
theorem cgB_all (xs : List Id) : cgB xs xs.length = fun _ => 0 := by
  funext x
  simp [cgB]
theorem cgB_next (xs : List Id) {k : Nat} (h : k < xs.length) : gnT (cgB xs k) xs[k] (-1) = cgB xs (k + 1) := by
  funext y
  have ht := List.take_succ_eq_append_getElem h
  have hs := congrFun (cg_snoc (xs.take k) xs[k]) y
  unfold cgB
  rw [ht, ← hs]
  unfold gnT
  by_cases e : y = xs[k]
  · simp [e]; omega
  · simp [e]
def onB (L : List Pick) (N k : Nat) : Stamp → Int := fun s => onAt L N s - onAt L k s
theorem onB_zero (L : List Pick) (N : Nat) : onB L N 0 = onAt L N := by
  funext s
  simp [onB, onAt]
theorem onB_all (L : List Pick) (N : Nat) : onB L N N = fun _ => 0 := by
  funext s
  simp [onB]
theorem onB_next (L : List Pick) (N k : Nat) : onT (onB L N k) (gS k (L.getD k zeroP)) (-1) = onB L N (k + 1) := by
  funext s
  unfold onB
  rw [onAt]
  unfold onT
  by_cases h : s = gS k (L.getD k zeroP)
  · rw [if_pos h, if_pos h, h]; dsimp only; omega
  · rw [if_neg h, if_neg h]
theorem seen_none (O : List Nd) (gn : Id → Int) : seenO O (fun _ => 0) gn = [] := by
  unfold seenO seenI
  simp
end Go.Proofs.YtphapjbfaomblaaDoor
/- What law11's awake asks, in plain words. -/
namespace Go.Proofs.YtphapjbfaomblaaDoor
open Go Go.RowKit Go.Maps Go.ChangeMaps
theorem Sht.order {w0 w : World} {P : Nat → Prop} {p : Loc} {c : Nat} {F : List El} {O : List Nd} {on : Stamp → Int} {gn : Id → Int} (h : Sht w0 P p c F O on gn w) : OrderOf Id.Lt El.id El.af zeroI (fun e => e ∈ F) O := by
  obtain ⟨Fs, Es, n, m, n2, D, Dr, hd, Dn, h1, h2, h3, _⟩ := h
  rw [← h3]
  exact h2.ord
theorem Sht.one {w0 w : World} {P : Nat → Prop} {p : Loc} {c : Nat} {F : List El} {O O' : List Nd} {on : Stamp → Int} {gn : Id → Int} (h : Sht w0 P p c F O on gn w) (h' : OrderOf Id.Lt El.id El.af zeroI (fun e => e ∈ F) O') : O = O' := order_unique idSTO h.order h'
def bO : List Nd := [([mk 1 1 0], eA), ([mk 1 1 0, mk 1 1 1], eB)]
theorem bNames : Names El.id zeroI (fun e => e ∈ [eA, eB]) := by
  refine ⟨fun e f he hf h => ?_, fun e he => ?_⟩
  · simp only [List.mem_cons, List.mem_nil_iff, or_false] at he hf
    rcases he with rfl | rfl <;> rcases hf with rfl | rfl
    · rfl
    · exact absurd h (by decide)
    · exact absurd h (by decide)
    · rfl
  · simp only [List.mem_cons, List.mem_nil_iff, or_false] at he
    rcases he with rfl | rfl <;> decide
theorem bNodes : ∀ n ∈ bO, IsNode El.id El.af zeroI (fun e => e ∈ [eA, eB]) n := by
  have hA : IsPath El.id El.af zeroI (fun e => e ∈ [eA, eB]) [mk 1 1 0] (mk 1 1 0) := .step [] eA _ _ .root (by simp) rfl rfl
  intro n hn
  simp only [bO, List.mem_cons, List.mem_nil_iff, or_false] at hn
  rcases hn with rfl | rfl
  · exact ⟨by simp, [], .root, rfl⟩
  · exact ⟨by simp, [mk 1 1 0], hA, rfl⟩
theorem bOrder : OrderOf Id.Lt El.id El.af zeroI (fun e => e ∈ [eA, eB]) bO := by
  refine ⟨?_, fun n => ⟨bNodes n, fun hn => ?_⟩⟩
  · simp [bO, PLt]
  · have hm := hn.1
    have key : ∀ m ∈ bO, m.2 = n.2 → n ∈ bO := fun m hm e => by
      have := node_unique bNames (bNodes m hm) hn (by rw [e])
      rw [← this]; exact hm
    simp only [List.mem_cons, List.mem_nil_iff, or_false] at hm
    rcases hm with h | h
    · exact key ([mk 1 1 0], eA) (by simp [bO]) h.symm
    · exact key ([mk 1 1 0, mk 1 1 1], eB) (by simp [bO]) h.symm
def bS : Stamp := ⟨1, 1, by decide, by decide⟩
def bOn : Stamp → Int := onT (fun _ => 0) bS 1
def bGn : Id → Int := gnT (fun _ => 0) (mk 1 1 0) 1
theorem bSeen : seenO bO bOn (fun _ => 0) = [eA, eB] := by decide
theorem bSeen2 : seenO bO bOn bGn = [eB] := by decide
theorem bBeh : behV (rowV bO bOn bGn) 1 = (mk 1 1 1, 0) := by decide
theorem bCnt : cntR (rowV bO bOn bGn) = 1 := by decide
end Go.Proofs.YtphapjbfaomblaaDoor
