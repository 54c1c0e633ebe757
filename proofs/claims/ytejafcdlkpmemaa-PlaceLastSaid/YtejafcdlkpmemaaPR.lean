/- The law PlaceLast, walked. -/
import Derived.Test.YtejafcdlkpmemaaPP3
import Derived.Test.YtejafcdlkpmemaaPH
import Derived.Test.YtejafcdlkpmemaaPN
import Derived.Test.YtejafcdlkpmemaaPE
import Derived.Test.YtejafcdlkpmemaaX3
import Derived.Deep.CutRange
namespace Go.Proofs.Ytejafcdlkpmemaa
open Go Go.RowKit Go.Maps Go.Shelf
theorem apartBase {W W' : World} {b b' : Nat} {e e' : TypeId} {K K' n n' : Nat} {v v' : Value} {xs xs' : List Value} (h : W.ownsRow b e K v n xs) (h' : W'.ownsRow b' e' K' v' n' xs') (hb : W.heap.size ≤ b') : Apart v v' := by
  intro g h1 h2
  have := (h.lt g h1).2
  have := (h'.lt g h2).1
  omega
theorem cellsOf {W : World} {b : Nat} {xs : List Value} {t : TypeId} {fr : Nat × Nat} (h : W.heap[b]? = some (.cells xs.toArray t fr)) : ∀ j u, xs[j]? = some u → W.cell? ((⟨b, 0, none⟩ : Addr).add j) = some u := by
  intro j u hu
  rw [Go.WideShapes.add_plain, Nat.zero_add, cell_of_row _ _ _ _ _ _ h, ← hu]
  simp
theorem lastI_C : idC lastI = [.int .i64 4611686018427387905, .int .i64 1, .int .i64 0] := rfl
def LastRel (w3 : World) (n : Nat) (P : List Id) (Q : List Place) (a b : Value) (W : World) : Prop :=
  W.ownsRow w3.heap.size 26 3 a n (P.flatMap idC) ∧ W.ownsRow w3.heap.size 71 8 b n (Q.flatMap plC) ∧ Apart a b ∧ Below w3.heap.size w3 W
def LoRel (a : List Id) (N : Nat) (w2 : World) (i : Value) (wr : World) : Prop := ∃ k : Nat, k ≤ N ∧ i = .int .i64 k ∧ (∀ x ∈ a.take k, x.s.T ≤ 4611686018427387904) ∧ wr = w2
set_option maxRecDepth 100000 in
set_option maxHeartbeats 8000000 in
theorem last_walk (a : List Id) (b : List Place) (p : Place) (A A' : Option Addr) (n c n' c' : Nat) (w : World) (hR : Rd w w.heap.size 3 (.slice A n c) n (a.flatMap idC)) (hR' : Rd w w.heap.size 8 (.slice A' n' c') n' (b.flatMap plC)) :
    Calls Try.prog 17 #[.slice A n c, .slice A' n' c', plV p] w fun e w' => e = .returned (.bool true) ∧ Below w.heap.size w w' := by
  have hal := len_of idC 3 (fun _ => rfl) (by decide) hR.1
  have hbl := len_of plC 8 (fun _ => rfl) (by decide) hR'.1
  subst hal
  subst hbl
  have hl1 := hR.len
  have hl2 := hR'.len
  unfold maxLen at hl1 hl2
  obtain ⟨wb, hwb⟩ : ∃ W, w.alloc (.cells (plC p).toArray 71) = W := ⟨_, rfl⟩
  have hpb : wb.heap[w.heap.size]? = some (.cells (plC p).toArray 71 (0, 0)) := by rw [← hwb]; exact heap_alloc_new w _
  have hb0 : Below w.heap.size w wb := by rw [← hwb]; exact ((Grows.refl w).alloc _).below
  have HWB := Lib.hid hwb
  obtain ⟨bp, hbp⟩ : ∃ k, w.heap.size = k := ⟨_, rfl⟩
  have HBP := Lib.hid hbp
  rw [hbp] at hpb
  have hpl := (Array.getElem?_eq_some_iff.1 hpb).1
  have HPB := Lib.hid (fun W (hW : Below wb.heap.size wb W) => (hW.block bp hpl).trans hpb)
  have HB0 := Lib.hid hb0
  have HR := Lib.hid (fun W (hb : Below wb.heap.size wb W) => (hR.below' hb0 (Nat.le_refl _)).below' hb hb0.size)
  have HR' := Lib.hid (fun W (hb : Below wb.heap.size wb W) => (hR'.below' hb0 (Nat.le_refl _)).below' hb hb0.size)
  obtain ⟨i0, hi, hz0, hz1, hz2⟩ := info_parts info26
  obtain ⟨j0, gi, gz0, gz1, gz2⟩ := info_parts info71
  clear hR hR' hwb hpb hb0
  unfold plV
  by_cases hn : a.length ≤ 80
  · by_cases hn' : b.length ≤ 80
    · go_enter Try.func17, Try.ntmps17
      go_wp2_with fail
      rw [show w.alloc (.cells #[.int .i64 p.nd.s.T, .int .i64 p.nd.s.R, .int .i64 p.nd.I, .int .i64 p.pa.s.T, .int .i64 p.pa.s.R, .int .i64 p.pa.I, .string p.nm, .bool p.dir] 71) = wb from HWB.out]
      refine (pawake_any wb).mono ?_
      rintro e w1 ⟨rfl, hb1⟩
      have HB1 := Lib.hid hb1
      obtain ⟨N, hN⟩ : ∃ N, min a.length b.length = N := ⟨_, rfl⟩
      have hN80 : N ≤ 80 := by omega
      have hNa : N ≤ a.length := by omega
      have hNb : N ≤ b.length := by omega
      have HN := Lib.hid hN
      clear hb1 hN hbp
      go_wp2
      have hmin : min (a.length : Int) (b.length : Int) = (N : Int) := by have := HN.out; omega
      rw [hmin]
      obtain ⟨w2, hw2⟩ : ∃ W, w1.alloc (.cells #[.int .i64 4611686018427387905, .int .i64 1, .int .i64 0] 26) = W := ⟨_, rfl⟩
      have hb2 : Below w1.heap.size w1 w2 := by rw [← hw2]; exact ((Grows.refl w1).alloc _).below
      have hlb : w2.heap[w1.heap.size]? = some (.cells #[.int .i64 4611686018427387905, .int .i64 1, .int .i64 0] 26 (0, 0)) := by rw [← hw2]; exact heap_alloc_new w1 _
      rw [hw2]
      obtain ⟨bl, hbl⟩ : ∃ k, w1.heap.size = k := ⟨_, rfl⟩
      have HB2 := Lib.hid (HB1.out.trans (hb2.mono HB1.out.size))
      rw [hbl] at hlb ⊢
      have hll := (Array.getElem?_eq_some_iff.1 hlb).1
      have hp2 := HPB.out _ HB2.out
      have hpl2 := (Array.getElem?_eq_some_iff.1 hp2).1
      have HBX := Lib.hid (fun W' (hW : Below w2.heap.size w2 W') => (show (W'.cell? ⟨bl, 0, none⟩ = some (.int .i64 4611686018427387905) ∧ W'.cell? ⟨bl, 1, none⟩ = some (.int .i64 1) ∧ W'.cell? ⟨bl, 2, none⟩ = some (.int .i64 0)) ∧ (W'.cell? ⟨bp, 0, none⟩ = some (.int .i64 p.nd.s.T) ∧ W'.cell? ⟨bp, 1, none⟩ = some (.int .i64 p.nd.s.R) ∧ W'.cell? ⟨bp, 2, none⟩ = some (.int .i64 p.nd.I) ∧ W'.cell? ⟨bp, 3, none⟩ = some (.int .i64 p.pa.s.T) ∧ W'.cell? ⟨bp, 4, none⟩ = some (.int .i64 p.pa.s.R) ∧ W'.cell? ⟨bp, 5, none⟩ = some (.int .i64 p.pa.I) ∧ W'.cell? ⟨bp, 6, none⟩ = some (.string p.nm) ∧ W'.cell? ⟨bp, 7, none⟩ = some (.bool p.dir)) from ⟨⟨(hW.cell (p := ⟨bl, 0, none⟩) hll).trans (cell_of_row _ _ 0 _ _ _ hlb), (hW.cell (p := ⟨bl, 1, none⟩) hll).trans (cell_of_row _ _ 1 _ _ _ hlb), (hW.cell (p := ⟨bl, 2, none⟩) hll).trans (cell_of_row _ _ 2 _ _ _ hlb)⟩, ⟨(hW.cell (p := ⟨bp, 0, none⟩) hpl2).trans (cell_of_row _ _ 0 _ _ _ hp2), (hW.cell (p := ⟨bp, 1, none⟩) hpl2).trans (cell_of_row _ _ 1 _ _ _ hp2), (hW.cell (p := ⟨bp, 2, none⟩) hpl2).trans (cell_of_row _ _ 2 _ _ _ hp2), (hW.cell (p := ⟨bp, 3, none⟩) hpl2).trans (cell_of_row _ _ 3 _ _ _ hp2), (hW.cell (p := ⟨bp, 4, none⟩) hpl2).trans (cell_of_row _ _ 4 _ _ _ hp2), (hW.cell (p := ⟨bp, 5, none⟩) hpl2).trans (cell_of_row _ _ 5 _ _ _ hp2), (hW.cell (p := ⟨bp, 6, none⟩) hpl2).trans (cell_of_row _ _ 6 _ _ _ hp2), (hW.cell (p := ⟨bp, 7, none⟩) hpl2).trans (cell_of_row _ _ 7 _ _ _ hp2)⟩⟩))
      have HRa := Lib.hid (fun W (hW : Below w2.heap.size w2 W) => HR.out W (HB2.out.trans (hW.mono HB2.out.size)))
      have HRb := Lib.hid (fun W (hW : Below w2.heap.size w2 W) => HR'.out W (HB2.out.trans (hW.mono HB2.out.size)))
      have HBw := Lib.hid (show Below w.heap.size w w2 from HB0.out.trans (HB2.out.mono HB0.out.size))
      clear hmin hw2 hb2 hlb hbl hll hp2 hpl2 HB1 HB2 HPB hpl
      go_loopw [10] (fun i wr => LoRel a N w2 i wr) (fun i _ => N - (intOf i).toNat)
      case atStart => exact ⟨0, Nat.zero_le _, rfl, by simp, rfl⟩
      case round =>
        obtain ⟨k, hk, rfl, hT, hwr⟩ := hrel
        subst hwr
        obtain ⟨w2, rfl⟩ : ∃ w2 : World, w2 = wr := ⟨_, rfl⟩
        by_cases hlt : k < N
        · have hka : k < a.length := by omega
          obtain ⟨g, og, rfl, hBg, hcell⟩ := rd_at idC 3 (fun _ => rfl) (by decide) (HRa.out w2 (Below.refl _ _)) hka
          have HT := Lib.hid hT
          have HTK := Lib.hid (List.take_succ_eq_append_getElem hka)
          obtain ⟨x, hx⟩ : ∃ x, a[k] = x := ⟨_, rfl⟩
          rw [hx] at hcell HTK
          have d0 : w2.cell? ⟨g, og + k * 3, none⟩ = some (.int .i64 x.s.T) := hcell 0 _ rfl
          have i1 : (0 : Int) ≤ (k : Int) := by omega
          have i2 : (k : Int) < (a.length : Int) := by omega
          have i3 : (k : Int) < (N : Int) := by omega
          clear hT hcell hx
          by_cases hxT : x.s.T ≤ 4611686018427387904
          · have HXT := Lib.hid hxT
            go_wp2
            go_roundw
            case rel =>
              refine ⟨k + 1, by omega, by go_num, ?_, rfl⟩
              rw [HTK.out]
              intro y hy
              rcases List.mem_append.1 hy with hy | hy
              · exact HT.out y hy
              · rw [List.mem_singleton] at hy; rw [hy]; exact HXT.out
            case measure => simp [intOf]; omega
          · have hxT : 4611686018427387904 < x.s.T := by omega
            go_wp2
            go_ret
            exact ⟨rfl, HBP.out ▸ HBw.out⟩
        · obtain rfl : k = N := by omega
          have HT := Lib.hid hT
          clear hT
          have i3 : ¬ (k : Int) < (k : Int) := by omega
          go_wp2_with fail
          refine (replay_any a b A A' a.length c b.length c' w.heap.size w2 (HRa.out _ (Below.refl _ _)) (HRb.out _ (Below.refl _ _)) (HBP.out ▸ HBw.out.size) (by omega)).mono ?_
          rintro e w3 ⟨v3, T, rfl, hTO, hTl, hO3, hb3⟩
          obtain ⟨A3, c3, rfl, _, _⟩ := (Rd.of_own hO3).form
          have hPl := replay_len T T.length (Nat.le_refl _)
          rw [List.take_length] at hPl
          have HTO := Lib.hid hTO
          have HO3 := Lib.hid hO3
          have HB3 := Lib.hid hb3
          have h23 := hb3.size
          have HSa := Lib.hid (show ∀ W, Below w2.heap.size w2 W → Rd W w.heap.size 3 (.slice A k c) k ((a.take k).flatMap idC) from fun W hW => (flat_take (f := idC) (k := 3) (fun _ => rfl) a k) ▸ (HRa.out W hW).taken hNa)
          have HSb := Lib.hid (show ∀ W, Below w2.heap.size w2 W → Rd W w.heap.size 8 (.slice A' k c') k ((b.take k).flatMap plC) from fun W hW => (flat_take (f := plC) (k := 8) (fun _ => rfl) b k) ▸ (HRb.out W hW).taken hNb)
          have j1 : (0 : Int) ≤ (k : Int) := by omega
          have j2 : (k : Int) ≤ (c : Int) := by omega
          have j3 : (k : Int) ≤ (c' : Int) := by omega
          clear hTO hO3 hb3
          go_wp2_with (at_builtin; refine wpList_append_rd rfl _ _ 29 rfl w3.heap.size 26 i0 _ 3 24 Try.underlying29 hi hz0 hz1 hz2 rfl (by decide) _ 0 [] rfl (World.ownsRow_nil _ _ _ _) _ w.heap.size k ((a.take k).flatMap idC) rfl (HSa.out w3 HB3.out) (list_one idC_one _) (by unfold maxLen; omega) (by omega) (Nat.le_refl _) ?_)
          intro va w5 hown5 hgrow5
          have hown5 : w5.ownsRow w3.heap.size 26 3 va k ((a.take k).flatMap idC) := by simpa using hown5
          have hb5 : Below w3.heap.size w3 w5 := (Below.refl _ _).grown hgrow5 (Nat.le_refl _) (fun j hj => by simp [Value.ownBlock] at hj)
          obtain ⟨Ava, cva, rfl, _, _⟩ := (Rd.of_own hown5).form
          have HN5 := Lib.hid hown5
          have HBE5 := Lib.hid hb5
          have h45 := hb5.size
          clear hown5 hgrow5 hb5
          go_wp2_with (at_builtin; refine wpList_append_rd rfl _ _ 60 rfl w5.heap.size 71 j0 _ 8 72 Try.underlying60 gi gz0 gz1 gz2 rfl (by decide) _ 0 [] rfl (World.ownsRow_nil _ _ _ _) _ w.heap.size k ((b.take k).flatMap plC) rfl (HSb.out w5 (HB3.out.trans (HBE5.out.mono h23))) (list_one plC_one _) (by unfold maxLen; omega) (by omega) (Nat.le_refl _) ?_)
          intro vb w6 hown6 hgrow6
          have hown6 : w6.ownsRow w5.heap.size 71 8 vb k ((b.take k).flatMap plC) := by simpa using hown6
          have hb6 : Below w5.heap.size w5 w6 := (Below.refl _ _).grown hgrow6 (Nat.le_refl _) (fun j hj => by simp [Value.ownBlock] at hj)
          obtain ⟨Avb, cvb, rfl, _, _⟩ := (Rd.of_own hown6).form
          have hap := apartBase HN5.out hown6 (Nat.le_refl _)
          have hrel6 : LastRel w3 k (a.take k) (b.take k) (.slice Ava k cva) (.slice Avb k cvb) w6 := ⟨own_grows HN5.out hb6, own_base hown6 h45, hap, HBE5.out.trans (hb6.mono h45)⟩
          have HRel := Lib.hid hrel6
          have HBX3 := Lib.hid (fun W' (hW : Below w3.heap.size w3 W') => HBX.out W' (HB3.out.trans (hW.mono h23)))
          clear hown6 hgrow6 hb6 hap hrel6 HN5 HBE5 h45
          go_upto_region 18 with (fail)
          go_cut [12, 13] from 62 to 69 (fun xa xb wx => LastRel w3 (k + 1) ((a.take k) ++ [lastI]) ((b.take k) ++ [p]) xa xb wx)
          case first =>
            obtain ⟨hOA, hOB, hap, k0⟩ := HRel.out
            have HOA1 := Lib.hid (show (w6.alloc (.cells #[.int .i64 4611686018427387905, .int .i64 1, .int .i64 0] 26)).drew.ownsRow w3.heap.size 26 3 (.slice Ava k cva) k ((a.take k).flatMap idC) from hOA.alloc _)
            have HOB1 := Lib.hid (show (w6.alloc (.cells #[.int .i64 4611686018427387905, .int .i64 1, .int .i64 0] 26)).drew.ownsRow w3.heap.size 71 8 (.slice Avb k cvb) k ((b.take k).flatMap plC) from hOB.alloc _)
            have hk1 : Below w3.heap.size w3 (w6.alloc (.cells #[.int .i64 4611686018427387905, .int .i64 1, .int .i64 0] 26)).drew := (k0.alloc k0.size _).drew
            have HOA2 := Lib.hid (show ((w6.alloc (.cells #[.int .i64 4611686018427387905, .int .i64 1, .int .i64 0] 26)).alloc (.cells #[.int .i64 p.nd.s.T, .int .i64 p.nd.s.R, .int .i64 p.nd.I, .int .i64 p.pa.s.T, .int .i64 p.pa.s.R, .int .i64 p.pa.I, .string p.nm, .bool p.dir] 71)).drew.ownsRow w3.heap.size 26 3 (.slice Ava k cva) k ((a.take k).flatMap idC) from (hOA.alloc _).alloc _)
            have HOB2 := Lib.hid (show ((w6.alloc (.cells #[.int .i64 4611686018427387905, .int .i64 1, .int .i64 0] 26)).alloc (.cells #[.int .i64 p.nd.s.T, .int .i64 p.nd.s.R, .int .i64 p.nd.I, .int .i64 p.pa.s.T, .int .i64 p.pa.s.R, .int .i64 p.pa.I, .string p.nm, .bool p.dir] 71)).drew.ownsRow w3.heap.size 71 8 (.slice Avb k cvb) k ((b.take k).flatMap plC) from (hOB.alloc _).alloc _)
            have hk2 : Below w3.heap.size w3 ((w6.alloc (.cells #[.int .i64 4611686018427387905, .int .i64 1, .int .i64 0] 26)).alloc (.cells #[.int .i64 p.nd.s.T, .int .i64 p.nd.s.R, .int .i64 p.nd.I, .int .i64 p.pa.s.T, .int .i64 p.pa.s.R, .int .i64 p.pa.I, .string p.nm, .bool p.dir] 71)).drew := ((k0.alloc k0.size _).alloc (k0.alloc k0.size _).size _).drew
            have HOA3 := Lib.hid (show ((w6.alloc (.cells #[.int .i64 p.nd.s.T, .int .i64 p.nd.s.R, .int .i64 p.nd.I, .int .i64 p.pa.s.T, .int .i64 p.pa.s.R, .int .i64 p.pa.I, .string p.nm, .bool p.dir] 71)).alloc (.cells #[.int .i64 4611686018427387905, .int .i64 1, .int .i64 0] 26)).drew.ownsRow w3.heap.size 26 3 (.slice Ava k cva) k ((a.take k).flatMap idC) from (hOA.alloc _).alloc _)
            have HOB3 := Lib.hid (show ((w6.alloc (.cells #[.int .i64 p.nd.s.T, .int .i64 p.nd.s.R, .int .i64 p.nd.I, .int .i64 p.pa.s.T, .int .i64 p.pa.s.R, .int .i64 p.pa.I, .string p.nm, .bool p.dir] 71)).alloc (.cells #[.int .i64 4611686018427387905, .int .i64 1, .int .i64 0] 26)).drew.ownsRow w3.heap.size 71 8 (.slice Avb k cvb) k ((b.take k).flatMap plC) from (hOB.alloc _).alloc _)
            have hk3 : Below w3.heap.size w3 ((w6.alloc (.cells #[.int .i64 p.nd.s.T, .int .i64 p.nd.s.R, .int .i64 p.nd.I, .int .i64 p.pa.s.T, .int .i64 p.pa.s.R, .int .i64 p.pa.I, .string p.nm, .bool p.dir] 71)).alloc (.cells #[.int .i64 4611686018427387905, .int .i64 1, .int .i64 0] 26)).drew := ((k0.alloc k0.size _).alloc (k0.alloc k0.size _).size _).drew
            have HCA1 := Lib.hid (show ∀ j u, ([.int .i64 4611686018427387905, .int .i64 1, .int .i64 0] : List Value)[j]? = some u → (w6.alloc (.cells #[.int .i64 4611686018427387905, .int .i64 1, .int .i64 0] 26)).drew.cell? ((⟨w6.heap.size, 0, none⟩ : Addr).add j) = some u from cells_new w6 [.int .i64 4611686018427387905, .int .i64 1, .int .i64 0] 26)
            have hhA2 : ((w6.alloc (.cells #[.int .i64 4611686018427387905, .int .i64 1, .int .i64 0] 26)).alloc (.cells #[.int .i64 p.nd.s.T, .int .i64 p.nd.s.R, .int .i64 p.nd.I, .int .i64 p.pa.s.T, .int .i64 p.pa.s.R, .int .i64 p.pa.I, .string p.nm, .bool p.dir] 71)).drew.heap[w6.heap.size]? = some (.cells #[.int .i64 4611686018427387905, .int .i64 1, .int .i64 0] 26 (0, 0)) := (Below.heap_alloc _ _ _ (by simp)).trans (heap_alloc_new w6 _)
            have hhB2 : ((w6.alloc (.cells #[.int .i64 4611686018427387905, .int .i64 1, .int .i64 0] 26)).alloc (.cells #[.int .i64 p.nd.s.T, .int .i64 p.nd.s.R, .int .i64 p.nd.I, .int .i64 p.pa.s.T, .int .i64 p.pa.s.R, .int .i64 p.pa.I, .string p.nm, .bool p.dir] 71)).drew.heap[(w6.heap.size + 1)]? = some (.cells #[.int .i64 p.nd.s.T, .int .i64 p.nd.s.R, .int .i64 p.nd.I, .int .i64 p.pa.s.T, .int .i64 p.pa.s.R, .int .i64 p.pa.I, .string p.nm, .bool p.dir] 71 (0, 0)) := by have := heap_alloc_new (w6.alloc (.cells #[.int .i64 4611686018427387905, .int .i64 1, .int .i64 0] 26)) (.cells #[.int .i64 p.nd.s.T, .int .i64 p.nd.s.R, .int .i64 p.nd.I, .int .i64 p.pa.s.T, .int .i64 p.pa.s.R, .int .i64 p.pa.I, .string p.nm, .bool p.dir] 71); rwa [World.size_alloc] at this
            have hhB3 : ((w6.alloc (.cells #[.int .i64 p.nd.s.T, .int .i64 p.nd.s.R, .int .i64 p.nd.I, .int .i64 p.pa.s.T, .int .i64 p.pa.s.R, .int .i64 p.pa.I, .string p.nm, .bool p.dir] 71)).alloc (.cells #[.int .i64 4611686018427387905, .int .i64 1, .int .i64 0] 26)).drew.heap[w6.heap.size]? = some (.cells #[.int .i64 p.nd.s.T, .int .i64 p.nd.s.R, .int .i64 p.nd.I, .int .i64 p.pa.s.T, .int .i64 p.pa.s.R, .int .i64 p.pa.I, .string p.nm, .bool p.dir] 71 (0, 0)) := (Below.heap_alloc _ _ _ (by simp)).trans (heap_alloc_new w6 _)
            have hhA3 : ((w6.alloc (.cells #[.int .i64 p.nd.s.T, .int .i64 p.nd.s.R, .int .i64 p.nd.I, .int .i64 p.pa.s.T, .int .i64 p.pa.s.R, .int .i64 p.pa.I, .string p.nm, .bool p.dir] 71)).alloc (.cells #[.int .i64 4611686018427387905, .int .i64 1, .int .i64 0] 26)).drew.heap[(w6.heap.size + 1)]? = some (.cells #[.int .i64 4611686018427387905, .int .i64 1, .int .i64 0] 26 (0, 0)) := by have := heap_alloc_new (w6.alloc (.cells #[.int .i64 p.nd.s.T, .int .i64 p.nd.s.R, .int .i64 p.nd.I, .int .i64 p.pa.s.T, .int .i64 p.pa.s.R, .int .i64 p.pa.I, .string p.nm, .bool p.dir] 71)) (.cells #[.int .i64 4611686018427387905, .int .i64 1, .int .i64 0] 26); rwa [World.size_alloc] at this
            have HCA2 := Lib.hid (cellsOf (xs := [.int .i64 4611686018427387905, .int .i64 1, .int .i64 0]) hhA2)
            have HHB2 := Lib.hid hhB2
            have HCA3 := Lib.hid (cellsOf (xs := [.int .i64 4611686018427387905, .int .i64 1, .int .i64 0]) hhA3)
            have HHB3 := Lib.hid hhB3
            have HAP := Lib.hid hap
            have HOAl := Lib.hid (fun kk (hk : ((.slice Ava k cva) : Value).ownBlock = some kk) => (hOA.lt kk hk))
            clear hOA hOB hap hhA2 hhA3 hhB2 hhB3
            go_region_held3 (fun W' => (W'.cell? ⟨bl, 0, none⟩ = some (.int .i64 4611686018427387905) ∧ W'.cell? ⟨bl, 1, none⟩ = some (.int .i64 1) ∧ W'.cell? ⟨bl, 2, none⟩ = some (.int .i64 0)) ∧ (W'.cell? ⟨bp, 0, none⟩ = some (.int .i64 p.nd.s.T) ∧ W'.cell? ⟨bp, 1, none⟩ = some (.int .i64 p.nd.s.R) ∧ W'.cell? ⟨bp, 2, none⟩ = some (.int .i64 p.nd.I) ∧ W'.cell? ⟨bp, 3, none⟩ = some (.int .i64 p.pa.s.T) ∧ W'.cell? ⟨bp, 4, none⟩ = some (.int .i64 p.pa.s.R) ∧ W'.cell? ⟨bp, 5, none⟩ = some (.int .i64 p.pa.I) ∧ W'.cell? ⟨bp, 6, none⟩ = some (.string p.nm) ∧ W'.cell? ⟨bp, 7, none⟩ = some (.bool p.dir)))
              (first | exact HBX3.out _ k0.drew | exact HBX3.out _ hk1 | exact HBX3.out _ hk2 | exact HBX3.out _ hk3 | exact HBX3.out _ ((k0.alloc k0.size _).drew) | exact HBX3.out _ kA | exact HBX3.out _ (kA.alloc kA.size _) | exact HBX3.out _ kB | go_keep)
              (first
                | (refine step_append_lies _ (by rfl) _ _ _ (by rfl) w3.heap.size 26 i0 _ 3 24 Try.underlying29 hi hz0 hz1 hz2 rfl (by omega) _ k _ (by rfl) HOA1.out ⟨w6.heap.size, 0, none⟩ 1 1 [.int .i64 4611686018427387905, .int .i64 1, .int .i64 0] (by rfl) (by rfl) HCA1.out (by simp [Value.oneCell']) (by omega) (by unfold maxLen; omega) (by omega) hk1.size _ (by rfl) ?_; intro g cap WA hown hgrow hat hgl; have hNA : WA.ownsRow w3.heap.size 26 3 (.slice (some ⟨g, 0, none⟩) (k + 1) cap) (k + 1) (((a.take k) ++ [lastI]).flatMap idC) := (by rw [List.flatMap_append, List.flatMap_singleton, lastI_C]; exact hown); have hNB := HOB1.out.kept hgrow HAP.out.kept; have hAP : Apart (.slice (some ⟨g, 0, none⟩) (k + 1) cap) (.slice Avb k cvb) := HAP.out.lies HOB1.out hat (Nat.le_refl _); have kA := hk1.grown hgrow hk1.size (fun j hj => (HOAl.out j hj).1); clear hown hgrow hat hgl)
                | (refine step_append_lies _ (by rfl) _ _ _ (by rfl) w3.heap.size 26 i0 _ 3 24 Try.underlying29 hi hz0 hz1 hz2 rfl (by omega) _ k _ (by rfl) HOA2.out ⟨w6.heap.size, 0, none⟩ 1 1 [.int .i64 4611686018427387905, .int .i64 1, .int .i64 0] (by rfl) (by rfl) HCA2.out (by simp [Value.oneCell']) (by omega) (by unfold maxLen; omega) (by omega) hk2.size _ (by rfl) ?_; intro g cap WA hown hgrow hat hgl; have hNA : WA.ownsRow w3.heap.size 26 3 (.slice (some ⟨g, 0, none⟩) (k + 1) cap) (k + 1) (((a.take k) ++ [lastI]).flatMap idC) := (by rw [List.flatMap_append, List.flatMap_singleton, lastI_C]; exact hown); have hNB := HOB2.out.kept hgrow HAP.out.kept; have hAP : Apart (.slice (some ⟨g, 0, none⟩) (k + 1) cap) (.slice Avb k cvb) := HAP.out.lies HOB2.out hat (Nat.le_refl _); have kA := hk2.grown hgrow hk2.size (fun j hj => (HOAl.out j hj).1); have hCB := cellsOf (xs := [.int .i64 p.nd.s.T, .int .i64 p.nd.s.R, .int .i64 p.nd.I, .int .i64 p.pa.s.T, .int .i64 p.pa.s.R, .int .i64 p.pa.I, .string p.nm, .bool p.dir]) ((hgrow.block (w6.heap.size + 1) (Array.getElem?_eq_some_iff.1 HHB2.out).1 (fun e => by have := (HOAl.out _ e.symm).2; omega)).trans HHB2.out); clear hown hgrow hat hgl)
                | (refine step_append_lies _ (by rfl) _ _ _ (by rfl) w3.heap.size 26 i0 _ 3 24 Try.underlying29 hi hz0 hz1 hz2 rfl (by omega) _ k _ (by rfl) HOA3.out ⟨(w6.heap.size + 1), 0, none⟩ 1 1 [.int .i64 4611686018427387905, .int .i64 1, .int .i64 0] (by rfl) (by rfl) HCA3.out (by simp [Value.oneCell']) (by omega) (by unfold maxLen; omega) (by omega) hk3.size _ (by rfl) ?_; intro g cap WA hown hgrow hat hgl; have hNA : WA.ownsRow w3.heap.size 26 3 (.slice (some ⟨g, 0, none⟩) (k + 1) cap) (k + 1) (((a.take k) ++ [lastI]).flatMap idC) := (by rw [List.flatMap_append, List.flatMap_singleton, lastI_C]; exact hown); have hNB := HOB3.out.kept hgrow HAP.out.kept; have hAP : Apart (.slice (some ⟨g, 0, none⟩) (k + 1) cap) (.slice Avb k cvb) := HAP.out.lies HOB3.out hat (Nat.le_refl _); have kA := hk3.grown hgrow hk3.size (fun j hj => (HOAl.out j hj).1); have hCB := cellsOf (xs := [.int .i64 p.nd.s.T, .int .i64 p.nd.s.R, .int .i64 p.nd.I, .int .i64 p.pa.s.T, .int .i64 p.pa.s.R, .int .i64 p.pa.I, .string p.nm, .bool p.dir]) ((hgrow.block w6.heap.size (Array.getElem?_eq_some_iff.1 HHB3.out).1 (fun e => by have := (HOAl.out _ e.symm).2; omega)).trans HHB3.out); clear hown hgrow hat hgl)
                | (refine step_append_lies _ (by rfl) _ _ _ (by rfl) w3.heap.size 71 j0 _ 8 72 Try.underlying60 gi gz0 gz1 gz2 rfl (by omega) _ k _ (by rfl) (hNB.alloc (.cells #[.int .i64 p.nd.s.T, .int .i64 p.nd.s.R, .int .i64 p.nd.I, .int .i64 p.pa.s.T, .int .i64 p.pa.s.R, .int .i64 p.pa.I, .string p.nm, .bool p.dir] 71)) ⟨WA.heap.size, 0, none⟩ 1 1 [.int .i64 p.nd.s.T, .int .i64 p.nd.s.R, .int .i64 p.nd.I, .int .i64 p.pa.s.T, .int .i64 p.pa.s.R, .int .i64 p.pa.I, .string p.nm, .bool p.dir] (by rfl) (by rfl) (cells_new WA [.int .i64 p.nd.s.T, .int .i64 p.nd.s.R, .int .i64 p.nd.I, .int .i64 p.pa.s.T, .int .i64 p.pa.s.R, .int .i64 p.pa.I, .string p.nm, .bool p.dir] 71) (by simp [Value.oneCell']) (by omega) (by unfold maxLen; omega) (by omega) (kA.alloc kA.size (.cells #[.int .i64 p.nd.s.T, .int .i64 p.nd.s.R, .int .i64 p.nd.I, .int .i64 p.pa.s.T, .int .i64 p.pa.s.R, .int .i64 p.pa.I, .string p.nm, .bool p.dir] 71)).size _ (by rfl) ?_; intro g2 cap2 WB hown2 hgrow2 hat2 hgl2; have hNB2 : WB.ownsRow w3.heap.size 71 8 (.slice (some ⟨g2, 0, none⟩) (k + 1) cap2) (k + 1) (((b.take k) ++ [p]).flatMap plC) := (by rw [List.flatMap_append, List.flatMap_singleton]; exact hown2); have hNA2 := (hNA.alloc (.cells #[.int .i64 p.nd.s.T, .int .i64 p.nd.s.R, .int .i64 p.nd.I, .int .i64 p.pa.s.T, .int .i64 p.pa.s.R, .int .i64 p.pa.I, .string p.nm, .bool p.dir] 71)).kept hgrow2 hAP.symm.kept; have hAP2 : Apart (.slice (some ⟨g2, 0, none⟩) (k + 1) cap2) (.slice (some ⟨g, 0, none⟩) (k + 1) cap) := hAP.symm.lies hNA hat2 (by rw [World.size_alloc]; exact Nat.le_succ _); have kB := ((kA.alloc kA.size (.cells #[.int .i64 p.nd.s.T, .int .i64 p.nd.s.R, .int .i64 p.nd.I, .int .i64 p.pa.s.T, .int .i64 p.pa.s.R, .int .i64 p.pa.I, .string p.nm, .bool p.dir] 71))).grown hgrow2 (kA.alloc kA.size (.cells #[.int .i64 p.nd.s.T, .int .i64 p.nd.s.R, .int .i64 p.nd.I, .int .i64 p.pa.s.T, .int .i64 p.pa.s.R, .int .i64 p.pa.I, .string p.nm, .bool p.dir] 71)).size (fun j hj => (hNB.lt j hj).1); have hRelN : LastRel w3 (k + 1) ((a.take k) ++ [lastI]) ((b.take k) ++ [p]) (.slice (some ⟨g, 0, none⟩) (k + 1) cap) (.slice (some ⟨g2, 0, none⟩) (k + 1) cap2) WB := ⟨hNA2, hNB2, hAP2.symm, kB⟩; clear hown2 hgrow2 hat2 hgl2)
                | (refine step_append_lies _ (by rfl) _ _ _ (by rfl) w3.heap.size 71 j0 _ 8 72 Try.underlying60 gi gz0 gz1 gz2 rfl (by omega) _ k _ (by rfl) hNB ⟨(w6.heap.size + 1), 0, none⟩ 1 1 [.int .i64 p.nd.s.T, .int .i64 p.nd.s.R, .int .i64 p.nd.I, .int .i64 p.pa.s.T, .int .i64 p.pa.s.R, .int .i64 p.pa.I, .string p.nm, .bool p.dir] (by rfl) (by rfl) hCB (by simp [Value.oneCell']) (by omega) (by unfold maxLen; omega) (by omega) kA.size _ (by rfl) ?_; intro g2 cap2 WB hown2 hgrow2 hat2 hgl2; have hNB2 : WB.ownsRow w3.heap.size 71 8 (.slice (some ⟨g2, 0, none⟩) (k + 1) cap2) (k + 1) (((b.take k) ++ [p]).flatMap plC) := (by rw [List.flatMap_append, List.flatMap_singleton]; exact hown2); have hNA2 := (hNA).kept hgrow2 hAP.symm.kept; have hAP2 : Apart (.slice (some ⟨g2, 0, none⟩) (k + 1) cap2) (.slice (some ⟨g, 0, none⟩) (k + 1) cap) := hAP.symm.lies hNA hat2 (Nat.le_refl _); have kB := (kA).grown hgrow2 kA.size (fun j hj => (hNB.lt j hj).1); have hRelN : LastRel w3 (k + 1) ((a.take k) ++ [lastI]) ((b.take k) ++ [p]) (.slice (some ⟨g, 0, none⟩) (k + 1) cap) (.slice (some ⟨g2, 0, none⟩) (k + 1) cap2) WB := ⟨hNA2, hNB2, hAP2.symm, kB⟩; clear hown2 hgrow2 hat2 hgl2)
                | (refine step_append_lies _ (by rfl) _ _ _ (by rfl) w3.heap.size 71 j0 _ 8 72 Try.underlying60 gi gz0 gz1 gz2 rfl (by omega) _ k _ (by rfl) hNB ⟨w6.heap.size, 0, none⟩ 1 1 [.int .i64 p.nd.s.T, .int .i64 p.nd.s.R, .int .i64 p.nd.I, .int .i64 p.pa.s.T, .int .i64 p.pa.s.R, .int .i64 p.pa.I, .string p.nm, .bool p.dir] (by rfl) (by rfl) hCB (by simp [Value.oneCell']) (by omega) (by unfold maxLen; omega) (by omega) kA.size _ (by rfl) ?_; intro g2 cap2 WB hown2 hgrow2 hat2 hgl2; have hNB2 : WB.ownsRow w3.heap.size 71 8 (.slice (some ⟨g2, 0, none⟩) (k + 1) cap2) (k + 1) (((b.take k) ++ [p]).flatMap plC) := (by rw [List.flatMap_append, List.flatMap_singleton]; exact hown2); have hNA2 := (hNA).kept hgrow2 hAP.symm.kept; have hAP2 : Apart (.slice (some ⟨g2, 0, none⟩) (k + 1) cap2) (.slice (some ⟨g, 0, none⟩) (k + 1) cap) := hAP.symm.lies hNA hat2 (Nat.le_refl _); have kB := (kA).grown hgrow2 kA.size (fun j hj => (hNB.lt j hj).1); have hRelN : LastRel w3 (k + 1) ((a.take k) ++ [lastI]) ((b.take k) ++ [p]) (.slice (some ⟨g, 0, none⟩) (k + 1) cap) (.slice (some ⟨g2, 0, none⟩) (k + 1) cap2) WB := ⟨hNA2, hNB2, hAP2.symm, kB⟩; clear hown2 hgrow2 hat2 hgl2))
            all_goals (go_wp2_with fail; go_meet; exact hRelN)
          case rest =>
          obtain ⟨hOA, hOB, hap, hbW⟩ := hcut
          obtain ⟨A7, c7, rfl, _, _⟩ := (Rd.of_own hOA).form
          obtain ⟨A8, c8, rfl, _, _⟩ := (Rd.of_own hOB).form
          have HOA7 := Lib.hid hOA
          have HOB7 := Lib.hid hOB
          have HBW7 := Lib.hid hbW
          clear hOA hOB hap hbW HRel
          go_wp2_with fail
          refine (replay_any (a.take k ++ [lastI]) (b.take k ++ [p]) A7 A8 (k + 1) c7 (k + 1) c8 wc.heap.size wc (Rd.of_own HOA7.out) (Rd.of_own HOB7.out) (Nat.le_refl _) (by omega)).mono ?_
          rintro e w7 ⟨v7, Z, rfl, hZ, _, hO7, hb7⟩
          obtain ⟨A9, c9, rfl, _, _⟩ := (Rd.of_own hO7).form
          have hq : replayL Z = pstep (replayL T) p := by
            have hN := HN.out
            refine last_of HTO.out ?_ ?_
            · rw [hN]; exact HT.out
            · rw [hN]; exact hZ
          have hPr := replayL_rises T
          rw [hq] at hO7 ⊢
          obtain ⟨P, hP⟩ : ∃ P, replayL T = P := ⟨_, rfl⟩
          rw [hP] at HO3 hO7 hPl hPr ⊢
          have hPl80 : P.length ≤ 80 := by omega
          have k7 := HBW7.out.trans (hb7.mono HBW7.out.size)
          have HRP := Lib.hid (fun W (hW : Below w3.heap.size w3 W) => (Rd.of_own HO3.out).below' hW (Nat.le_refl _))
          have HRQ := Lib.hid (fun W (hW : Below w7.heap.size w7 W) => (Rd.of_own hO7).below' hW (Nat.le_refl _))
          have HFin := Lib.hid (fun W (hW : Below w3.heap.size w3 W) => (show Below w.heap.size w W from (HBw.out.trans ((HB3.out.trans (hW.mono h23)).mono HBw.out.size))))
          have HK7 := Lib.hid k7
          have HPR := Lib.hid hPr
          have HZ7 := Lib.hid (fun W (hW : Below w7.heap.size w7 W) => k7.trans (hW.mono k7.size))
          have hqq := eql26
          have hnq := neq26
          have hgd := gd26
          have hE := eq3_zero p.nd
          obtain ⟨⟨l0, l1, l2⟩, q0, q1, q2, q3, q4, q5, q6, q7⟩ := HBX3.out w7 k7
          clear hZ hq hP hPl hPr hb7 hO7 k7 HTO HT HOA7 HOB7 HSa HSb HRa HRb HR HR' HN hTl HBW7
          by_cases hz : p.nd = zeroI
          · have hs := pstep_stay (L := P) (.inl hz)
            rw [hs] at HRQ ⊢
            rw [decide_eq_true hz] at hE
            have HS4 := Lib.hid (show Calls Try.prog 38 #[.slice A3 P.length c3, .slice A9 P.length c9] w7 (fun e w' => e = .returned (.bool true) ∧ Grows w7 w') from
              (samePl_any P P A3 A9 _ c3 _ c9 w7.heap.size w7 ((HRP.out w7 HK7.out).more HK7.out.size) (HRQ.out w7 (Below.refl _ _))).mono (by rintro e w' ⟨rfl, hg⟩; exact ⟨by rw [decide_eq_true rfl], hg⟩))
            clear hz hs l0 l1 l2
            go_wp2_with fail
            refine HS4.out.mono ?_
            rintro e w8 ⟨rfl, hg8⟩
            have HF := Lib.hid (HFin.out w8 (HZ7.out w8 hg8.below))
            clear hg8 q0 q1 q2 q3 q4 q5 q6 q7
            go_wp2
            go_ret
            exact ⟨rfl, HBP.out ▸ HF.out⟩
          · rw [decide_eq_false hz] at hE
            have HW := Lib.hid (rwithin_any P p.pa p.nd A3 _ c3 w3.heap.size w7 (HRP.out w7 HK7.out) HK7.out.size (by omega))
            obtain ⟨R, hR⟩ : ∃ R, withinGo P (P.length + 1) p.pa p.nd = R := ⟨_, rfl⟩
            rw [hR] at HW
            unfold idV at HW
            clear l0 l1 l2
            cases R
            · have hq := pstep_put hz hR
              rw [hq] at HRQ ⊢
              have HQF := Lib.hid (show pfind (insertP p P) p.nd = some (putDir (pfind P p.nd) p) by rw [insertP_find HPR.out, if_pos rfl])
              have HQL := Lib.hid (insertP_len (p := p) HPR.out)
              obtain ⟨Q, hQ⟩ : ∃ Q, insertP p P = Q := ⟨_, rfl⟩
              rw [hQ] at HRQ HQF HQL ⊢
              clear hz hR hq hQ
              go_wp2_with fail
              refine HW.out.mono ?_
              rintro e w8 ⟨rfl, hb8⟩
              have HB8 := Lib.hid hb8
              have HFI := Lib.hid (find_any Q p.nd A9 _ c9 w7.heap.size w8 (HRQ.out w8 hb8) hb8.size)
              unfold idV at HFI
              clear hb8 q0 q1 q2 q3 q4 q5 q6 q7
              obtain ⟨_, q0, q1, q2, q3, q4, q5, q6, q7⟩ := HBX3.out w8 (HZ7.out w8 HB8.out)
              go_wp2_with fail
              refine HFI.out.mono ?_
              rintro e w9 ⟨⟨r, rfl, hr⟩, hg9⟩
              have hqf := HQF.out
              rcases hr with ⟨j, hj, rfl, hjn, hjf⟩ | ⟨_, hno⟩
              · rw [hqf] at hjf
                have hjq : Q[j] = putDir (pfind P p.nd) p := (Option.some.inj hjf).symm
                have HB9 := Lib.hid (HB8.out.trans (hg9.below.mono HB8.out.size))
                obtain ⟨gq, ogq, rfl, hBq, hcq⟩ := rd_at plC 8 (fun _ => rfl) (by decide) (HRQ.out w9 HB9.out) hj
                rw [hjq] at hcq
                obtain ⟨d, hd⟩ : ∃ d, (putDir (pfind P p.nd) p).dir = d := ⟨_, rfl⟩
                have hplq : plC (putDir (pfind P p.nd) p) = [.int .i64 p.nd.s.T, .int .i64 p.nd.s.R, .int .i64 p.nd.I, .int .i64 p.pa.s.T, .int .i64 p.pa.s.R, .int .i64 p.pa.I, .string p.nm, .bool d] := by
                  rw [← hd]; cases pfind P p.nd <;> rfl
                rw [hplq] at hcq
                have HCQ := Lib.hid (fun W (hW : Below w9.heap.size w9 W) => (show W.cell? ⟨gq, ogq + j * 8 + 3, none⟩ = some (.int .i64 p.pa.s.T) ∧ W.cell? ⟨gq, ogq + j * 8 + 4, none⟩ = some (.int .i64 p.pa.s.R) ∧ W.cell? ⟨gq, ogq + j * 8 + 5, none⟩ = some (.int .i64 p.pa.I) ∧ W.cell? ⟨gq, ogq + j * 8 + 6, none⟩ = some (.string p.nm) ∧ W.cell? ⟨gq, ogq + j * 8 + 7, none⟩ = some (.bool d) from
                  have hlt : gq < w9.heap.size := Nat.lt_of_lt_of_le hBq HB9.out.size
                  ⟨(hW.cell (p := ⟨gq, ogq + j * 8 + 3, none⟩) hlt).trans (hcq 3 _ rfl), (hW.cell (p := ⟨gq, ogq + j * 8 + 4, none⟩) hlt).trans (hcq 4 _ rfl), (hW.cell (p := ⟨gq, ogq + j * 8 + 5, none⟩) hlt).trans (hcq 5 _ rfl), (hW.cell (p := ⟨gq, ogq + j * 8 + 6, none⟩) hlt).trans (hcq 6 _ rfl), (hW.cell (p := ⟨gq, ogq + j * 8 + 7, none⟩) hlt).trans (hcq 7 _ rfl)⟩))
                have HD := Lib.hid hd
                have h9e : eq3 p.pa.s.T p.pa.s.R p.pa.I p.pa.s.T p.pa.s.R p.pa.I = true := by rw [eq3_id, decide_eq_true rfl]
                have i1 : (0 : Int) ≤ (j : Int) := by omega
                have i2 : (j : Int) < (Q.length : Int) := by omega
                have i3 : ¬ (j : Int) < 0 := by omega
                obtain ⟨e3, e4, e5, e6, e7⟩ := HCQ.out w9 (Below.refl _ _)
                clear hqf hjf hjq hcq hplq hd hjn hg9 q0 q1 q2 q3 q4 q5 q6 q7
                obtain ⟨_, q0, q1, q2, q3, q4, q5, q6, q7⟩ := HBX3.out w9 (HZ7.out w9 HB9.out)
                go_wp2
                go_quiet (fail)
                go_wp2_with fail
                have hd9 : Below w9.heap.size w9 (w9.drewN nq) := ((Grows.refl w9).drewN nq).below
                obtain ⟨w10, hw10⟩ : ∃ W, w9.drewN nq = W := ⟨_, rfl⟩
                rw [hw10] at hd9 ⊢
                have hb10 := HB9.out.trans (hd9.mono HB9.out.size)
                have HFP := Lib.hid (find_any P p.nd A3 _ c3 w3.heap.size w10 (HRP.out w10 (HZ7.out w10 hb10)) (HZ7.out w10 hb10).size)
                unfold idV at HFP
                clear e3 e4 e5 e6 e7 q0 q1 q2 q3 q4 q5 q6 q7 hw10
                refine HFP.out.mono ?_
                rintro e w11 ⟨⟨r2, rfl, hr2⟩, hg11⟩
                have hd11 := hd9.trans (hg11.below.mono hd9.size)
                have hb11 := hb10.trans (hg11.below.mono hb10.size)
                have HF11 := Lib.hid (HFin.out w11 (HZ7.out w11 hb11))
                obtain ⟨_, q0, q1, q2, q3, q4, q5, q6, q7⟩ := HBX3.out w11 (HZ7.out w11 hb11)
                obtain ⟨e3, e4, e5, e6, e7⟩ := HCQ.out w11 hd11
                have hql := HQL.out
                have hdd := HD.out
                clear q0 q1 q2 q3 q4 q5 q6 e3 e4 e5 e6 HFP hg11
                rcases hr2 with ⟨i, hi', rfl, hin, hif⟩ | ⟨rfl, hno⟩
                · rw [hif] at hql hdd
                  have hdd : P[i].dir = d := hdd
                  have hql : Q.length = P.length := hql
                  rw [hql] at i2 ⊢
                  clear HQL HD
                  obtain ⟨gp, ogp, rfl, hBp, hcp⟩ := rd_at plC 8 (fun _ => rfl) (by decide) (HRP.out w11 (HZ7.out w11 hb11)) hi'
                  have f7 : w11.cell? ⟨gp, ogp + i * 8 + 7, none⟩ = some (.bool d) := hdd ▸ hcp 7 _ rfl
                  have g1 : (0 : Int) ≤ (i : Int) := by omega
                  have g2 : (i : Int) < (P.length : Int) := by omega
                  have g3 : ¬ (i : Int) < 0 := by omega
                  clear hql hdd hcp hin hif hd9 hd11 hb10 hb11 q7
                  go_wp2
                  have g4 : decide ((i : Int) < 0) = false := by simp
                  have g5 : decide ((0 : Int) ≤ (i : Int)) = true := by simp
                  go_big_quiet (fail)
                  go_wp2
                  go_ret
                  exact ⟨rfl, HBP.out ▸ (HF11.out.trans (((Grows.refl w11).drewN nq).below.mono HF11.out.size))⟩
                · rw [hno] at hql hdd
                  have hdd : p.dir = d := hdd
                  have hql : Q.length = P.length + 1 := hql
                  rw [hql] at i2 ⊢
                  rw [hdd] at q7
                  clear HQL HD
                  clear hql hdd hno hd9 hd11 hb10 hb11
                  go_wp2
                  go_big_quiet (fail)
                  go_wp2
                  go_ret
                  exact ⟨rfl, HBP.out ▸ (HF11.out.trans (((Grows.refl w11).drewN nq).below.mono HF11.out.size))⟩
              · rw [hqf] at hno
                cases hno
            · have hs := pstep_stay (L := P) (.inr hR)
              rw [hs] at HRQ ⊢
              clear hz hs hR
              go_wp2_with fail
              refine HW.out.mono ?_
              rintro e w8 ⟨rfl, hb8⟩
              have HS4 := Lib.hid (show Calls Try.prog 38 #[.slice A3 P.length c3, .slice A9 P.length c9] w8 (fun e w' => e = .returned (.bool true) ∧ Grows w8 w') from
                (samePl_any P P A3 A9 _ c3 _ c9 w8.heap.size w8 ((HRP.out w8 (HZ7.out w8 hb8)).more (HZ7.out w8 hb8).size) ((HRQ.out w8 hb8).more hb8.size)).mono (by rintro e w' ⟨rfl, hg⟩; exact ⟨by rw [decide_eq_true rfl], hg⟩))
              have HB8 := Lib.hid hb8
              clear hb8 q0 q1 q2 q3 q4 q5 q6 q7
              go_wp2_with fail
              refine HS4.out.mono ?_
              rintro e w9 ⟨rfl, hg9⟩
              have HF := Lib.hid (HFin.out w9 (HZ7.out w9 (HB8.out.trans (hg9.below.mono HB8.out.size))))
              clear hg9
              go_wp2
              go_ret
              exact ⟨rfl, HBP.out ▸ HF.out⟩
    · go_enter Try.func17, Try.ntmps17
      go_wp2_with fail
      rw [show w.alloc (.cells #[.int .i64 p.nd.s.T, .int .i64 p.nd.s.R, .int .i64 p.nd.I, .int .i64 p.pa.s.T, .int .i64 p.pa.s.R, .int .i64 p.pa.I, .string p.nm, .bool p.dir] 71) = wb from HWB.out]
      refine (pawake_any wb).mono ?_
      rintro e w1 ⟨rfl, hb1⟩
      have HB1 := Lib.hid (HB0.out.trans (hb1.mono HB0.out.size))
      clear hb1 hbp
      go_wp2
      go_ret
      exact ⟨rfl, HBP.out ▸ HB1.out⟩
  · go_enter Try.func17, Try.ntmps17
    go_wp2_with fail
    rw [show w.alloc (.cells #[.int .i64 p.nd.s.T, .int .i64 p.nd.s.R, .int .i64 p.nd.I, .int .i64 p.pa.s.T, .int .i64 p.pa.s.R, .int .i64 p.pa.I, .string p.nm, .bool p.dir] 71) = wb from HWB.out]
    refine (pawake_any wb).mono ?_
    rintro e w1 ⟨rfl, hb1⟩
    have HB1 := Lib.hid (HB0.out.trans (hb1.mono HB0.out.size))
    clear hb1 hbp
    go_wp2
    go_ret
    exact ⟨rfl, HBP.out ▸ HB1.out⟩
end Go.Proofs.Ytejafcdlkpmemaa
