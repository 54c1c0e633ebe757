/- The law's Told: steps as they are told. -/
import Derived.Test.YtejafcdlkpmemaaPP3
import Derived.Test.YtejafcdlkpmemaaPH
import Derived.Test.YtejafcdlkpmemaaFB
import Derived.Deep.RegionHeld3
namespace Go.Proofs.Ytejafcdlkpmemaa
open Go Go.RowKit Go.Maps Go.Shelf
def TdRel (L : List Step) (w : World) (a b i : Value) (wr : World) : Prop :=
  ∃ k : Nat, k ≤ min L.length 40 ∧ i = .int .i64 k ∧ wr.ownsRow w.heap.size 26 3 a k ((tIs L k).flatMap idC) ∧ wr.ownsRow w.heap.size 71 8 b k ((tPs L k).flatMap plC) ∧ Apart a b ∧ Below w.heap.size w wr
def TdPost (L : List Step) (w : World) (e : Ending) (w' : World) : Prop :=
  ∃ a b, e = .returned (.tuple #[a, b]) ∧ w'.ownsRow w.heap.size 26 3 a (min L.length 40) ((tIs L (min L.length 40)).flatMap idC) ∧ w'.ownsRow w.heap.size 71 8 b (min L.length 40) ((tPs L (min L.length 40)).flatMap plC) ∧ Apart a b ∧ Below w.heap.size w w'
theorem Apart.lies {v1 v2 : Value} (h : Apart v1 v2) {W : World} {base : Nat} {e : TypeId} {K n g H m cap : Nat} {xs : List Value} (ho : W.ownsRow base e K v2 n xs) (hat : v1.ownBlock = some g ∨ g = H) (hm : W.heap.size ≤ H) : Apart (.slice (some ⟨g, 0, none⟩) m cap) v2 :=
  h.new ho (hat.elim (fun h => .inl h.symm) (fun h => .inr (by rw [h]; rfl))) hm
set_option maxRecDepth 100000 in
theorem and_one_u8 {n : Nat} (h : n < 256) : bits BinOp.and IntKind.u8 (n : Int) 1 = ((n % 2 : Nat) : Int) := by
  have : ∀ n : Fin 256, bits BinOp.and IntKind.u8 (n.val : Int) 1 = ((n.val % 2 : Nat) : Int) := by decide
  exact this ⟨n, h⟩
set_option maxRecDepth 100000 in
set_option maxHeartbeats 4000000 in
theorem told_any (L : List Step) (A : Option Addr) (n c B : Nat) (w : World) (hR : Rd w B 3 (.slice A n c) n (L.flatMap stepC)) (hB : B ≤ w.heap.size) :
    Calls Try.prog 43 #[.slice A n c] w (TdPost L w) := by
  obtain ⟨_, hnc, hcm⟩ := hR.len
  unfold maxLen at hcm
  obtain rfl := len_of stepC 3 (fun _ => rfl) (by decide) hR.1
  have HR := Lib.hid hR
  clear hR
  obtain ⟨i0, hi, hz0, hz1, hz2⟩ := info_parts info26
  obtain ⟨j0, gi, gz0, gz1, gz2⟩ := info_parts info71
  go_enter Try.func43, Try.ntmps43
  go_wp2
  go_loopw [4, 5, 6] (fun a b i wr => TdRel L w a b i wr) (fun _ _ i _ => L.length - (intOf i).toNat)
  case atStart => exact ⟨0, Nat.zero_le _, rfl, World.ownsRow_nil _ _ _ _, World.ownsRow_nil _ _ _ _, apart_nil _, Below.refl _ _⟩
  case round =>
    obtain ⟨k, hk, rfl, hO, hO', hA, hb⟩ := hrel
    obtain ⟨A1, c1, rfl, hLc, hcm2⟩ := (Rd.of_own hO).form
    obtain ⟨A2, c2, rfl, hLc', hcm2'⟩ := (Rd.of_own hO').form
    have HO := Lib.hid hO
    have HO' := Lib.hid hO'
    have HA := Lib.hid hA
    clear hO hO' hA
    obtain ⟨wo, rfl⟩ : ∃ wo : World, wo = wr := ⟨_, rfl⟩
    have HK := Lib.hid hk
    have hk40 : k ≤ 40 := by omega
    clear hk
    by_cases hlt : k < L.length
    · by_cases hl4 : k < 40
      · obtain ⟨b, o, rfl, hB', hcell⟩ := rd_at stepC 3 (fun _ => rfl) (by decide) HR.out hlt
        have hbl : b < w.heap.size := by omega
        have hgd : L.getD k zeroStep = L[k] := by rw [List.getD_eq_getElem?_getD, List.getElem?_eq_getElem hlt]; rfl
        have hic := tI_C L (i := k) (by omega)
        have hpc := tP_C L k
        rw [hgd] at hic hpc
        obtain ⟨x, hx⟩ : ∃ x, L[k] = x := ⟨_, rfl⟩
        obtain ⟨nd, pa, tm, hnd, hpa, htm⟩ := x
        rw [hx] at hcell hic hpc
        dsimp only at hic hpc
        have HS0 := Lib.hid (fun W' (hW : Below w.heap.size w W') => (show W'.cell? ⟨b, o + k * 3, none⟩ = some (.int .u8 nd) ∧ W'.cell? ⟨b, o + k * 3 + 1, none⟩ = some (.int .u8 pa) ∧ W'.cell? ⟨b, o + k * 3 + 2, none⟩ = some (.int .u8 tm) from
          ⟨(hW.cell (p := ⟨b, o + k * 3, none⟩) hbl).trans (hcell 0 _ rfl), (hW.cell (p := ⟨b, o + k * 3 + 1, none⟩) hbl).trans (hcell 1 _ rfl), (hW.cell (p := ⟨b, o + k * 3 + 2, none⟩) hbl).trans (hcell 2 _ rfl)⟩))
        obtain ⟨d0, d1, d2⟩ := HS0.out wo hb
        have hbl2 : b < wo.heap.size := Nat.lt_of_lt_of_le hbl hb.size
        clear hcell hgd hx
        obtain ⟨r, hr⟩ : ∃ r, nd % 8 = r := ⟨_, rfl⟩
        obtain ⟨s, hs⟩ : ∃ s, pa % 9 = s := ⟨_, rfl⟩
        obtain ⟨t, ht⟩ : ∃ t, tm % 30 = t := ⟨_, rfl⟩
        obtain ⟨u, hu⟩ : ∃ u, 1 + r = u := ⟨_, rfl⟩
        obtain ⟨z, hz⟩ : ∃ z, 10 + t = z := ⟨_, rfl⟩
        have hr8 : r < 8 := by omega
        have hs9 : s < 9 := by omega
        have ht30 : t < 30 := by omega
        have m1 : Int.tmod (nd : Int) 8 = (r : Int) := by rw [Int.tmod_eq_emod_of_nonneg (by omega), ← hr]; rfl
        have m2 : Int.tmod (pa : Int) 9 = (s : Int) := by rw [Int.tmod_eq_emod_of_nonneg (by omega), ← hs]; rfl
        have m3 : Int.tmod (tm : Int) 30 = (t : Int) := by rw [Int.tmod_eq_emod_of_nonneg (by omega), ← ht]; rfl
        have w1 : IntKind.i64.wrap (nd : Int) = nd := IntWalk.i64_in _ (by omega)
        have w2 : IntKind.i64.wrap (pa : Int) = pa := IntWalk.i64_in _ (by omega)
        have w3 : IntKind.i64.wrap (tm : Int) = tm := IntWalk.i64_in _ (by omega)
        have a1 : IntKind.i64.wrap (1 + (r : Int)) = (u : Int) := by rw [IntWalk.i64_in _ (by omega)]; omega
        have a3 : IntKind.i64.wrap (10 + (t : Int)) = (z : Int) := by rw [IntWalk.i64_in _ (by omega)]; omega
        have i1 : (0 : Int) ≤ (k : Int) := by omega
        have i2 : (k : Int) < (L.length : Int) := by omega
        have m4 := and_one_u8 htm
        obtain ⟨md, hmd⟩ : ∃ m, tm % 2 = m := ⟨_, rfl⟩
        rw [hmd] at m4 hpc
        obtain ⟨bb, hbb⟩ : ∃ b, decide (md = 0) = b := ⟨_, rfl⟩
        have j4 : ((md : Int) == 0) = bb := by rw [← hbb]; by_cases h : md = 0 <;> simp [h]
        rw [hbb] at hpc
        clear hmd hbb
        rw [ht, hz] at hic
        rw [hr, hu, hs] at hpc
        have HIc := Lib.hid hic
        clear hic
        by_cases hs0 : s = 0
        · rw [if_pos hs0] at hpc
          subst hs0
          have HPc := Lib.hid hpc
          clear hr hs ht hu hz hpc
          have HOW := Lib.hid (HO.out.alloc (.cells #[.int .i64 0, .int .i64 0, .int .i64 0] 26))
          have HOW' := Lib.hid (HO'.out.alloc (.cells #[.int .i64 0, .int .i64 0, .int .i64 0] 26))
          have HBW := Lib.hid (hb.alloc hb.size (.cells #[.int .i64 0, .int .i64 0, .int .i64 0] 26))
          have HXW := Lib.hid (heap_alloc_new wo (.cells #[.int .i64 0, .int .i64 0, .int .i64 0] 26))
          have hbxl : wo.heap.size < (wo.alloc (.cells #[.int .i64 0, .int .i64 0, .int .i64 0] 26)).heap.size := by simp
          obtain ⟨bx, hbx⟩ : ∃ k, wo.heap.size = k := ⟨_, rfl⟩
          rw [hbx] at HXW hbxl
          have HBX := Lib.hid hbx
          clear hbx
          go_wp2_with (at_builtin; refine wpList_append_own_at _ rfl _ _ 29 rfl w.heap.size 26 i0 _ 3 24 Try.underlying29 hi hz0 hz1 hz2 rfl (by decide) _ k ((tIs L k).flatMap idC) rfl (HOW.out.alloc (.cells #[.int .i64 (z : Int), .int .i64 1, .int .i64 (k : Int)] 26)) ⟨wo.heap.size + 1, 0, none⟩ 1 1 [.int .i64 (z : Int), .int .i64 1, .int .i64 (k : Int)] rfl rfl ?qc (by simp [Value.oneCell']) ?q2 ?q3 ?q4 ?_)
          case qc => (have := cells_new (wo.alloc (.cells #[.int .i64 0, .int .i64 0, .int .i64 0] 26)) [.int .i64 (z : Int), .int .i64 1, .int .i64 (k : Int)] 26; rw [World.size_alloc] at this; exact this)
          case q2 => unfold maxLen; omega
          case q3 => omega
          case q4 => have := HBW.out.size; have := HBX.out; have := hb.size; first | (simp at *; omega) | omega
          simp only [HBX.out]
          have hbe := HBX.out
          intro v1 W4 hown hgrow _ hat
          have hA1 : Apart v1 (.slice A2 k c2) := HA.out.new HO'.out hat (by have := HBX.out; omega)
          have hO4 : W4.ownsRow w.heap.size 71 8 (.slice A2 k c2) k ((tPs L k).flatMap plC) := (HOW'.out.alloc _).kept hgrow HA.out.kept
          have hb4 : Below w.heap.size w W4 := (HBW.out.alloc HBW.out.size _).grown hgrow (by have := HBW.out.size; have := HBX.out; have := hb.size; first | omega | (simp; omega) | (simp at *; omega)) (fun j hj => (HO.out.lt j hj).1)
          have hu4 : W4.heap[bx]? = some (.cells #[.int .i64 0, .int .i64 0, .int .i64 0] 26 (0, 0)) :=
            (hgrow.block bx (by have := hbxl; first | omega | (simp; omega) | (simp at *; omega)) (fun e => by have := (HO.out.lt _ e.symm).2; omega)).trans ((Below.heap_alloc _ _ _ hbxl).trans HXW.out)
          have hn4 : W4.ownsRow w.heap.size 26 3 v1 (k + 1) ((tIs L (k + 1)).flatMap idC) := by rw [tIs_succ, List.flatMap_append, List.flatMap_singleton, HIc.out]; exact hown
          obtain ⟨g4, cap4, R4, rfl, _⟩ := own_parts hn4 (Nat.succ_pos _)
          have HN4 := Lib.hid hn4
          have HO4 := Lib.hid hO4
          have HA1 := Lib.hid hA1
          have hbx4 : bx < W4.heap.size := (Array.getElem?_eq_some_iff.1 hu4).1
          have hbl4 : b < W4.heap.size := Nat.lt_of_lt_of_le hbl hb4.size
          have HS4 := Lib.hid (fun W' (hW : Below W4.heap.size W4.drew W') => (show (W'.cell? ⟨bx, 0, none⟩ = some (.int .i64 0) ∧ W'.cell? ⟨bx, 1, none⟩ = some (.int .i64 0) ∧ W'.cell? ⟨bx, 2, none⟩ = some (.int .i64 0)) ∧ W'.cell? ⟨b, o + k * 3 + 2, none⟩ = some (.int .u8 tm) from
            ⟨⟨(hW.cell (p := ⟨bx, 0, none⟩) hbx4).trans (cell_of_row _ _ 0 _ _ _ hu4), (hW.cell (p := ⟨bx, 1, none⟩) hbx4).trans (cell_of_row _ _ 1 _ _ _ hu4), (hW.cell (p := ⟨bx, 2, none⟩) hbx4).trans (cell_of_row _ _ 2 _ _ _ hu4)⟩, (hW.cell (p := ⟨b, o + k * 3 + 2, none⟩) hbl4).trans (HS0.out W4 hb4).2.2⟩))
          have k1 : Below W4.heap.size W4.drew W4.drew := Below.refl _ _
          have HC := Lib.hid (fun W => id2_at (u : Int) 1 W)
          have HB4 := Lib.hid hb4
          have HU4 := Lib.hid hu4
          have hw4 : w.heap.size ≤ W4.heap.size := hb4.size
          have hk1k : k + 1 ≤ 40 := hl4
          clear hown hgrow hat hO4 hn4 hA1 hu4 hb4 hbx4 hbl4 d0 d1 d2 HOW' HBW HXW hbxl
          go_wp2
          go_region_held3 (fun W' => (W'.cell? ⟨bx, 0, none⟩ = some (.int .i64 0) ∧ W'.cell? ⟨bx, 1, none⟩ = some (.int .i64 0) ∧ W'.cell? ⟨bx, 2, none⟩ = some (.int .i64 0)) ∧ W'.cell? ⟨b, o + k * 3 + 2, none⟩ = some (.int .u8 tm))
            (first | exact HS4.out _ (by assumption) | exact hS6 | go_keep)
            (first
              | (go_at_call 44; refine (HC.out _).mono ?_; rintro e W5 ⟨rfl, hg5⟩; have k2 : Below W4.heap.size W4.drew W5 := hg5.below.mono k1.size; clear hg5)
              | (refine step_append_lies _ (by rfl) _ _ _ (by rfl) w.heap.size 71 j0 _ 8 72 Try.underlying60 gi gz0 gz1 gz2 rfl (by omega) _ k _ (by rfl) ((own_grows (own_drew HO4.out) k2).alloc _) ⟨W5.heap.size, 0, none⟩ 1 1 [.int .i64 (u : Int), .int .i64 1, .int .i64 0, .int .i64 0, .int .i64 0, .int .i64 0, .string sN, .bool bb] (by rfl) (by rfl) (cells_new W5 [.int .i64 (u : Int), .int .i64 1, .int .i64 0, .int .i64 0, .int .i64 0, .int .i64 0, .string sN, .bool bb] 71) (by simp [Value.oneCell']) (by omega) (by unfold maxLen; omega) (by omega) (by have := k2.size; simp at this ⊢; omega) _ (by rfl) ?_
                 intro g2 cap2 W6 hown2 hgrow2 hat2 hgl2
                 have hb6 : Below w.heap.size w W6 := ((HB4.out.drew.trans (k2.mono hw4)).alloc (Nat.le_trans hw4 k2.size) _).grown hgrow2 (by have := k2.size; simp at this ⊢; omega) (fun j hj => (HO4.out.lt j hj).1)
                 have hx6 : W6.heap[bx]? = some (.cells #[.int .i64 0, .int .i64 0, .int .i64 0] 26 (0, 0)) :=
                   (hgrow2.block bx (by have := k2.size; have := (Array.getElem?_eq_some_iff.1 HU4.out).1; simp at *; omega) (fun e => by have := (HO'.out.lt _ e.symm).2; have := HBX.out; omega)).trans ((Below.heap_alloc _ _ _ (by have := k2.size; have := (Array.getElem?_eq_some_iff.1 HU4.out).1; simp at *; omega)).trans ((k2.block bx (Array.getElem?_eq_some_iff.1 HU4.out).1).trans HU4.out))
                 have hS6 : (W6.cell? ⟨bx, 0, none⟩ = some (.int .i64 0) ∧ W6.cell? ⟨bx, 1, none⟩ = some (.int .i64 0) ∧ W6.cell? ⟨bx, 2, none⟩ = some (.int .i64 0)) ∧ W6.cell? ⟨b, o + k * 3 + 2, none⟩ = some (.int .u8 tm) := ⟨⟨cell_of_row _ _ 0 _ _ _ hx6, cell_of_row _ _ 1 _ _ _ hx6, cell_of_row _ _ 2 _ _ _ hx6⟩, (HS0.out W6 hb6).2.2⟩
                 have hA2 := HA1.out.symm.lies (m := k + 1) (cap := cap2) (own_grows (own_drew HN4.out) k2) hat2 (by rw [World.size_alloc]; exact Nat.le_succ _)
                 have hN6 := ((own_grows (own_drew HN4.out) k2).alloc (.cells #[.int .i64 (u : Int), .int .i64 1, .int .i64 0, .int .i64 0, .int .i64 0, .int .i64 0, .string sN, .bool bb] 71)).kept hgrow2 HA1.out.symm.kept))
          have HU6 := Lib.hid (show W6.ownsRow w.heap.size 71 8 (.slice (some ⟨g2, 0, none⟩) (k + 1) cap2) (k + 1) ((tPs L (k + 1)).flatMap plC) by rw [tPs_succ, List.flatMap_append, List.flatMap_singleton, HPc.out]; exact hown2)
          have HN6 := Lib.hid hN6
          have HA2 := Lib.hid hA2
          clear hown2 hgrow2 hat2 hgl2 k1 k2 hN6 hA2 hx6 hS6 m1 m3 w1 w2 w3 a1 a3
          go_wp2
          go_roundw
          case rel => exact ⟨k + 1, by omega, by go_num, HN6.out, HU6.out, HA2.out.symm, hb6⟩
          case measure => simp [intOf]; omega
        · rw [if_neg hs0] at hpc
          have HPc := Lib.hid hpc
          have hsp : (0 : Int) < (s : Int) := by omega
          clear hr hs ht hu hz hpc hs0
          go_wp2_with fail
          refine (id2_at _ _ _).mono ?_
          rintro e W1 ⟨rfl, hg1⟩
          have hx1 : W1.heap[wo.heap.size]? = some (.cells #[.int .i64 0, .int .i64 0, .int .i64 0] 26 (0, 0)) := (hg1.below.block _ (by simp)).trans (heap_alloc_new wo _)
          have hb1 : Below w.heap.size w W1 := (hb.alloc hb.size _).trans (hg1.below.mono (by have := hb.size; simp; omega))
          have hsz1 : wo.heap.size + 1 ≤ W1.heap.size := by have := hg1.below.size; simpa using this
          have hO1 := own_grows (HO.out.alloc _) hg1.below
          have hO1' := own_grows (HO'.out.alloc _) hg1.below
          obtain ⟨bx, hbx⟩ : ∃ k, wo.heap.size = k := ⟨_, rfl⟩
          rw [hbx] at hx1
          have hbe := hbx
          have HBX := Lib.hid hbx
          have hwb : w.heap.size ≤ bx := by have := hb.size; omega
          have hgs : W1.grownBy (((W1.setCell ⟨bx, 0, none⟩ (.int .i64 (s : Int))).setCell ⟨bx, 1, none⟩ (.int .i64 1)).setCell ⟨bx, 2, none⟩ (.int .i64 0)) (some bx) := ⟨rfl, rfl, rfl, by simp, fun k _ hne => set3_other (fun e => hne (by rw [e]))⟩
          have HOW := Lib.hid (hO1.kept hgs (by cases hv : (Value.slice A1 k c1).ownBlock with | none => exact .inl rfl | some g => exact .inr (fun e => by have := (HO.out.lt g hv).2; cases e; omega)))
          have HOW' := Lib.hid (hO1'.kept hgs (by cases hv : (Value.slice A2 k c2).ownBlock with | none => exact .inl rfl | some g => exact .inr (fun e => by have := (HO'.out.lt g hv).2; cases e; omega)))
          have HBW := Lib.hid (show Below w.heap.size w (((W1.setCell ⟨bx, 0, none⟩ (.int .i64 (s : Int))).setCell ⟨bx, 1, none⟩ (.int .i64 1)).setCell ⟨bx, 2, none⟩ (.int .i64 0)) from ((hb1.setCell (p := ⟨bx, 0, none⟩) hwb _).setCell (p := ⟨bx, 1, none⟩) hwb _).setCell (p := ⟨bx, 2, none⟩) hwb _)
          have HXW := Lib.hid (set3_heap (v := .int .i64 (s : Int)) (u := .int .i64 1) (z := .int .i64 0) hx1)
          have hbxl : bx < (((W1.setCell ⟨bx, 0, none⟩ (.int .i64 (s : Int))).setCell ⟨bx, 1, none⟩ (.int .i64 1)).setCell ⟨bx, 2, none⟩ (.int .i64 0)).heap.size := by simp; omega
          have z0 : ∀ i, W1.frozen? ⟨bx, i, none⟩ = false := fun i => by simp [World.frozen?, hx1]
          have x0 : W1.cell? ⟨bx, 0, none⟩ = some (.int .i64 0) := cell_of_row _ _ 0 _ _ _ hx1
          have x1 : W1.cell? ⟨bx, 1, none⟩ = some (.int .i64 0) := cell_of_row _ _ 1 _ _ _ hx1
          have x2 : W1.cell? ⟨bx, 2, none⟩ = some (.int .i64 0) := cell_of_row _ _ 2 _ _ _ hx1
          have hne : b ≠ bx := by omega
          have e2 : (((W1.setCell ⟨bx, 0, none⟩ (.int .i64 (s : Int))).setCell ⟨bx, 1, none⟩ (.int .i64 1)).setCell ⟨bx, 2, none⟩ (.int .i64 0)).cell? ⟨b, o + k * 3 + 2, none⟩ = some (.int .u8 tm) := (HS0.out _ HBW.out).2.2
          have hle1 : wo.heap.size ≤ W1.heap.size := by omega
          rw [hbx]
          clear hx1 hb1 hO1 hO1' hgs hg1 hbx
          go_wp2_with (at_builtin; refine wpList_append_own_at _ rfl _ _ 29 rfl w.heap.size 26 i0 _ 3 24 Try.underlying29 hi hz0 hz1 hz2 rfl (by decide) _ k ((tIs L k).flatMap idC) rfl (HOW.out.alloc (.cells #[.int .i64 (z : Int), .int .i64 1, .int .i64 (k : Int)] 26)) ⟨W1.heap.size, 0, none⟩ 1 1 [.int .i64 (z : Int), .int .i64 1, .int .i64 (k : Int)] rfl rfl ?qc (by simp [Value.oneCell']) ?q2 ?q3 ?q4 ?_)
          case qc => have := cells_new (((W1.setCell ⟨bx, 0, none⟩ (.int .i64 (s : Int))).setCell ⟨bx, 1, none⟩ (.int .i64 1)).setCell ⟨bx, 2, none⟩ (.int .i64 0)) [.int .i64 (z : Int), .int .i64 1, .int .i64 (k : Int)] 26; rw [show (((W1.setCell ⟨bx, 0, none⟩ (.int .i64 (s : Int))).setCell ⟨bx, 1, none⟩ (.int .i64 1)).setCell ⟨bx, 2, none⟩ (.int .i64 0)).heap.size = W1.heap.size by simp] at this; exact this
          case q2 => unfold maxLen; omega
          case q3 => omega
          case q4 => have := HBW.out.size; have := HBX.out; have := hb.size; first | (simp at *; omega) | omega
          clear x0 x1 x2 z0 e2
          intro v1 W4 hown hgrow _ hat
          have hA1 : Apart v1 (.slice A2 k c2) := HA.out.new HO'.out hat (by first | omega | (simp; omega) | (simp at *; omega))
          have hO4 : W4.ownsRow w.heap.size 71 8 (.slice A2 k c2) k ((tPs L k).flatMap plC) := (HOW'.out.alloc _).kept hgrow HA.out.kept
          have hb4 : Below w.heap.size w W4 := (HBW.out.alloc HBW.out.size _).grown hgrow (by have := HBW.out.size; have := HBX.out; have := hb.size; first | omega | (simp; omega) | (simp at *; omega)) (fun j hj => (HO.out.lt j hj).1)
          have hu4 : W4.heap[bx]? = some (.cells #[.int .i64 (s : Int), .int .i64 1, .int .i64 0] 26 (0, 0)) :=
            (hgrow.block bx (by have := hbxl; first | omega | (simp; omega) | (simp at *; omega)) (fun e => by have := (HO.out.lt _ e.symm).2; omega)).trans ((Below.heap_alloc _ _ _ hbxl).trans HXW.out)
          have hn4 : W4.ownsRow w.heap.size 26 3 v1 (k + 1) ((tIs L (k + 1)).flatMap idC) := by rw [tIs_succ, List.flatMap_append, List.flatMap_singleton, HIc.out]; exact hown
          obtain ⟨g4, cap4, R4, rfl, _⟩ := own_parts hn4 (Nat.succ_pos _)
          have HN4 := Lib.hid hn4
          have HO4 := Lib.hid hO4
          have HA1 := Lib.hid hA1
          have hbx4 : bx < W4.heap.size := (Array.getElem?_eq_some_iff.1 hu4).1
          have hbl4 : b < W4.heap.size := Nat.lt_of_lt_of_le hbl hb4.size
          have HS4 := Lib.hid (fun W' (hW : Below W4.heap.size W4.drew W') => (show (W'.cell? ⟨bx, 0, none⟩ = some (.int .i64 (s : Int)) ∧ W'.cell? ⟨bx, 1, none⟩ = some (.int .i64 1) ∧ W'.cell? ⟨bx, 2, none⟩ = some (.int .i64 0)) ∧ W'.cell? ⟨b, o + k * 3 + 2, none⟩ = some (.int .u8 tm) from
            ⟨⟨(hW.cell (p := ⟨bx, 0, none⟩) hbx4).trans (cell_of_row _ _ 0 _ _ _ hu4), (hW.cell (p := ⟨bx, 1, none⟩) hbx4).trans (cell_of_row _ _ 1 _ _ _ hu4), (hW.cell (p := ⟨bx, 2, none⟩) hbx4).trans (cell_of_row _ _ 2 _ _ _ hu4)⟩, (hW.cell (p := ⟨b, o + k * 3 + 2, none⟩) hbl4).trans (HS0.out W4 hb4).2.2⟩))
          have k1 : Below W4.heap.size W4.drew W4.drew := Below.refl _ _
          have HC := Lib.hid (fun W => id2_at (u : Int) 1 W)
          have HB4 := Lib.hid hb4
          have HU4 := Lib.hid hu4
          have hw4 : w.heap.size ≤ W4.heap.size := hb4.size
          have hk1k : k + 1 ≤ 40 := hl4
          clear hown hgrow hat hO4 hn4 hA1 hu4 hb4 hbx4 hbl4 d0 d1 d2 HOW' HBW HXW hbxl
          go_wp2
          go_region_held3 (fun W' => (W'.cell? ⟨bx, 0, none⟩ = some (.int .i64 (s : Int)) ∧ W'.cell? ⟨bx, 1, none⟩ = some (.int .i64 1) ∧ W'.cell? ⟨bx, 2, none⟩ = some (.int .i64 0)) ∧ W'.cell? ⟨b, o + k * 3 + 2, none⟩ = some (.int .u8 tm))
            (first | exact HS4.out _ (by assumption) | exact hS6 | go_keep)
            (first
              | (go_at_call 44; refine (HC.out _).mono ?_; rintro e W5 ⟨rfl, hg5⟩; have k2 : Below W4.heap.size W4.drew W5 := hg5.below.mono k1.size; clear hg5)
              | (refine step_append_lies _ (by rfl) _ _ _ (by rfl) w.heap.size 71 j0 _ 8 72 Try.underlying60 gi gz0 gz1 gz2 rfl (by omega) _ k _ (by rfl) ((own_grows (own_drew HO4.out) k2).alloc _) ⟨W5.heap.size, 0, none⟩ 1 1 [.int .i64 (u : Int), .int .i64 1, .int .i64 0, .int .i64 (s : Int), .int .i64 1, .int .i64 0, .string sN, .bool bb] (by rfl) (by rfl) (cells_new W5 [.int .i64 (u : Int), .int .i64 1, .int .i64 0, .int .i64 (s : Int), .int .i64 1, .int .i64 0, .string sN, .bool bb] 71) (by simp [Value.oneCell']) (by omega) (by unfold maxLen; omega) (by omega) (by have := k2.size; simp at this ⊢; omega) _ (by rfl) ?_
                 intro g2 cap2 W6 hown2 hgrow2 hat2 hgl2
                 have hb6 : Below w.heap.size w W6 := ((HB4.out.drew.trans (k2.mono hw4)).alloc (Nat.le_trans hw4 k2.size) _).grown hgrow2 (by have := k2.size; simp at this ⊢; omega) (fun j hj => (HO4.out.lt j hj).1)
                 have hx6 : W6.heap[bx]? = some (.cells #[.int .i64 (s : Int), .int .i64 1, .int .i64 0] 26 (0, 0)) :=
                   (hgrow2.block bx (by have := k2.size; have := (Array.getElem?_eq_some_iff.1 HU4.out).1; simp at *; omega) (fun e => by have := (HO'.out.lt _ e.symm).2; have := HBX.out; omega)).trans ((Below.heap_alloc _ _ _ (by have := k2.size; have := (Array.getElem?_eq_some_iff.1 HU4.out).1; simp at *; omega)).trans ((k2.block bx (Array.getElem?_eq_some_iff.1 HU4.out).1).trans HU4.out))
                 have hS6 : (W6.cell? ⟨bx, 0, none⟩ = some (.int .i64 (s : Int)) ∧ W6.cell? ⟨bx, 1, none⟩ = some (.int .i64 1) ∧ W6.cell? ⟨bx, 2, none⟩ = some (.int .i64 0)) ∧ W6.cell? ⟨b, o + k * 3 + 2, none⟩ = some (.int .u8 tm) := ⟨⟨cell_of_row _ _ 0 _ _ _ hx6, cell_of_row _ _ 1 _ _ _ hx6, cell_of_row _ _ 2 _ _ _ hx6⟩, (HS0.out W6 hb6).2.2⟩
                 have hA2 := HA1.out.symm.lies (m := k + 1) (cap := cap2) (own_grows (own_drew HN4.out) k2) hat2 (by rw [World.size_alloc]; exact Nat.le_succ _)
                 have hN6 := ((own_grows (own_drew HN4.out) k2).alloc (.cells #[.int .i64 (u : Int), .int .i64 1, .int .i64 0, .int .i64 (s : Int), .int .i64 1, .int .i64 0, .string sN, .bool bb] 71)).kept hgrow2 HA1.out.symm.kept))
          have HU6 := Lib.hid (show W6.ownsRow w.heap.size 71 8 (.slice (some ⟨g2, 0, none⟩) (k + 1) cap2) (k + 1) ((tPs L (k + 1)).flatMap plC) by rw [tPs_succ, List.flatMap_append, List.flatMap_singleton, HPc.out]; exact hown2)
          have HN6 := Lib.hid hN6
          have HA2 := Lib.hid hA2
          clear hown2 hgrow2 hat2 hgl2 k1 k2 hN6 hA2 hx6 hS6 m1 m3 w1 w2 w3 a1 a3
          go_wp2
          go_roundw
          case rel => exact ⟨k + 1, by omega, by go_num, HN6.out, HU6.out, HA2.out.symm, hb6⟩
          case measure => simp [intOf]; omega
      · have hkk : min L.length 40 = k := by have := HK.out; omega
        have hkge : (40 : Int) ≤ (k : Int) := by omega
        have HL40 := Lib.hid (show min L.length 40 = k from hkk)
        go_wp2
        go_ret2
        have h1 := HO.out
        have h2 := HO'.out
        unfold TdPost
        rw [HL40.out]
        exact ⟨_, _, rfl, h1, h2, HA.out, hb⟩
    · have hkk : min L.length 40 = k := by have := HK.out; omega
      have hkge : (L.length : Int) ≤ (k : Int) := by omega
      have HL40 := Lib.hid (show min L.length 40 = k from hkk)
      go_wp2
      go_ret2
      have h1 := HO.out
      have h2 := HO'.out
      unfold TdPost
      rw [HL40.out]
      exact ⟨_, _, rfl, h1, h2, HA.out, hb⟩
end Go.Proofs.Ytejafcdlkpmemaa
