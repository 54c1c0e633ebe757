/- The program's Live: the nodes that are there, gathered in a map and sorted. -/
import Derived.Test.YtejafcdlkpmemaaG
namespace Go.Proofs.Ytejafcdlkpmemaa
open Go Go.RowKit Go.Maps Go.Shelf
def LLRel (D : DataW HH) (w : World) (bm r nn : Nat) (wr : World) : Prop :=
  ∃ (left : Lit → Bool) (cnt : Nat) (ss : List Dot) (D2 : DataW HH), wr.ranges Try.prog 41 (unitElem (H := HH)) bm r nn D left cnt ∧ ss.length + cnt ≤ nn ∧ Come dotK D left ss ∧ wr.ownsMap Try.prog 26 (unitElem (H := HH)) w.heap.size ss.length D2 ∧ (∀ y, has D2 (idK y) = true ↔ ∃ d ∈ ss, d.n = y) ∧ Below w.heap.size w wr
set_option maxRecDepth 100000 in
set_option maxHeartbeats 2000000 in
theorem live_any (have_ gone : List Dot) (A A' : Option Addr) (n c n' c' B : Nat) (w : World) (hR : Rd w B 5 (.slice A n c) n (have_.flatMap dotC)) (hR' : Rd w B 5 (.slice A' n' c') n' (gone.flatMap dotC)) (hB : B ≤ w.heap.size) (hn : n ≤ 100000) :
    Calls Try.prog 20 #[.slice A n c, .slice A' n' c'] w (LivePost have_ gone w) := by
  obtain rfl := len_of dotC 5 (fun _ => rfl) (by decide) hR.1
  have HR0 := Lib.hid hR
  have HR0' := Lib.hid hR'
  clear hR hR'
  have hmm := @run_makeMap Try.prog
  go_enter Try.func20, Try.ntmps20
  go_wp2_with fail
  obtain ⟨W1, hW1⟩ : ∃ W, w.alloc (.map #[] 0) = W := ⟨_, rfl⟩
  have hb1 : Below w.heap.size w W1 := by rw [← hW1]; exact (Below.refl _ w).alloc (Nat.le_refl _) _
  have hm1 : W1.ownsMap Try.prog 26 (unitElem (H := HH)) w.heap.size 0 (.map []) := by rw [← hW1]; exact World.ownsMap_made w _ _ _
  have hs1 : w.heap.size + 1 = W1.heap.size := by rw [← hW1, World.size_alloc]
  rw [hW1]
  clear hW1 hmm
  refine (counting_any have_ gone A A' have_.length c n' c' B W1 (HR0.out.below' hb1 hB) (HR0'.out.below' hb1 hB) (by omega) hn).mono ?_
  rintro e W2 ⟨rfl, ⟨D, hown, hD⟩, hb2⟩
  have hb12 : Below w.heap.size w W2 := hb1.trans (hb2.mono (by omega))
  have hm2 : W2.ownsMap Try.prog 26 (unitElem (H := HH)) w.heap.size 0 (.map []) := hm1.kept (row := none) ⟨hb2.os, hb2.tape, hb2.output, hb2.size, fun k hk _ => hb2.block k hk⟩ (by simp)
  have HD := Lib.hid hD
  have HSZ := Lib.hid hown.size_le
  obtain ⟨bm, hbm⟩ : ∃ b, W1.heap.size = b := ⟨_, rfl⟩
  have hbmw : w.heap.size < bm := by omega
  rw [hbm] at hown ⊢
  clear hD hs1 hb1 hm1 hb2 hbm HR0 HR0'
  go_wp2_with (at_range; refine wpList_range_own _ rfl _ 76 rfl 41 78 keyed41 Try.underlying76 unitElem bm have_.length D rfl hown ?_; intro W3 hrg0 hg0 hs0)
  go_frame
  have hb13 : Below w.heap.size w W3 := hb12.grown hg0 hb12.size (fun j hj => by cases hj)
  have hm3 := hm2.kept hg0 (by simp)
  obtain ⟨r, hr⟩ : ∃ r, W2.heap.size = r := ⟨_, rfl⟩
  have hrw : w.heap.size < r := by have := hm2.lt; omega
  rw [hr] at hrg0 ⊢
  clear hg0 hs0 hb12 hm2 hown hr
  go_loopw [6] (fun _ wr => LLRel D w bm r have_.length wr) (fun _ wr => wr.rangeLeft bm r)
  case atStart =>
    refine ⟨_, _, [], .map [], hrg0, ?_, Come.start _ D, hm3, fun y => by simp [has], hb13⟩
    simpa using HSZ.out
  case round =>
    clear hrg0 hm3 hb13
    obtain ⟨left, cnt, ss, D2, hrg, hcs, hC, hM, hM2, hb⟩ := hrel
    have HC := Lib.hid hC
    have HM := Lib.hid hM
    have HM2 := Lib.hid hM2
    have HRG := Lib.hid hrg
    obtain ⟨wo, rfl⟩ : ∃ wo : World, wo = wr := ⟨_, rfl⟩
    clear hC hM hM2
    go_wp2_with (at_next; refine wpList_next_ranges _ rfl _ rfl 41 keyed41 unitElem dotV (fun _ : Unit => .agg #[]) (fun key kl hk => by obtain ⟨a, h, _⟩ := key41_inv hk; exact ⟨a, h⟩) (fun v y hv => ⟨(), (unitElem_inv hv).1⟩) bm r have_.length _ _ _ rfl hrg ?_ ?_)
    · intro hc0 hl0
      have HL := Lib.hid hl0
      clear hrg HRG hl0
      go_wp2_with fail
      refine (keys_call (some w.heap.size) wo).mono ?_
      rintro e W4 ⟨rfl, rfl⟩
      have hK := Lib.hid (keys_stops Fence.wide 2 trivial rfl (by omega) wo.heap.size w.heap.size ss.length D2 (wo.alloc (.cells #[.map (some w.heap.size)] 75)) (by simp) (cell_of_row _ _ 0 _ _ _ (heap_alloc_new wo _)) (HM.out.alloc _))
      have hb4 := hb.alloc hb.size (.cells #[.map (some w.heap.size)] 75)
      have hN : Maps.size D2 ≤ 100000 := by have := HM.out.size_le; omega
      go_wp2_with fail
      refine (sortedFunc_any 67 _ (enters_of Try.func67 (by kernel_rfl) rfl) _ _ _ hN _ hK.out).mono ?_
      rintro e W5 ⟨v, L, ys, rfl, hS, hP, hso, ho, hb5⟩
      have HS := Lib.hid hS
      have HP := Lib.hid hP
      have HSo := Lib.hid hso
      have HO := Lib.hid ho
      have hsz : w.heap.size ≤ (wo.alloc (.cells #[.map (some w.heap.size)] 75)).heap.size := hb4.size
      have hb6 := Lib.hid (hb4.trans (hb5.mono hsz))
      have HSZ2 := Lib.hid hsz
      clear hS hP hso ho hb5 hsz hb4 hb hK
      go_wp2
      go_ret
      refine ⟨v, ys, rfl, own_base HO.out HSZ2.out, idSTO.strict (HSo.out.imp fun {a b} h1 h2 => absurd ((icmp_id_neg b a).2 h2) (by omega)) (HP.out.nodup_iff.2 HS.out.1), fun y => ?_, hb6.out⟩
      rw [HP.out.mem_iff, HS.out.2 y, HM2.out y]
      unfold liveMem
      rw [List.take_length]
      constructor
      · rintro ⟨d, hd, h1⟩
        have h3 := (HD.out d).1 ((HC.out.2 d).1 hd).1
        exact ⟨d, h3.1, h3.2, h1⟩
      · rintro ⟨d, hd, h3, h1⟩
        exact ⟨d, (HC.out.2 d).2 ⟨(HD.out d).2 ⟨hd, h3⟩, HL.out _⟩, h1⟩
    · intro d kl y yp w2 cnt2 hkey hlk hv hat hrg2 hlt hg2 hs2 hen
      obtain ⟨d', e1, rfl⟩ := key41_inv hkey
      obtain rfl := dotV_inj e1
      have hb2 : Below w.heap.size w w2 := hb.grown hg2 hb.size (fun j hj => by cases hj; omega)
      have hm2 := HM.out.kept hg2 (by simp; omega)
      have HC2 := Lib.hid (HC.out.step ok41 hlk hat)
      have HRG2 := Lib.hid hrg2
      have HLT := Lib.hid hlt
      have hcs2 : (ss ++ [d]).length + cnt2 ≤ have_.length := by simp; omega
      clear hkey hlk hv hat hrg2 hrg hg2 hs2 e1 HC hb
      unfold dotV at hen ⊢
      go_wp2_with (at_mapUpdate; refine wpList_mapUpdate_own _ rfl _ _ _ 75 rfl 26 78 keyed26 Try.underlying75 unitElem w.heap.size ss.length D2 rfl (hm2.alloc _) (by unfold maxLen; omega) (idV d.n) (.agg #[]) (idK d.n) rfl rfl (key26 d.n) (.agg []) [] unitElem_mk ?_; intro w3 hown3 hgrow3)
      have hb3 : Below w.heap.size w w3 := (hb2.alloc hb2.size _).grown hgrow3 (by have := hb2.size; simp; omega) (fun j hj => by cases hj; exact Nat.le_refl _)
      have hrg3 := (HRG2.out.alloc (.cells #[.int .i64 d.n.s.T, .int .i64 d.n.s.R, .int .i64 d.n.I, .int .i64 d.b.T, .int .i64 d.b.R] 41)).kept hgrow3 (by simp; omega) (by simp; omega)
      have HRG3 := Lib.hid hrg3
      have HO3 := Lib.hid hown3
      clear hgrow3 hrg3 hown3 hm2 hb2
      go_wp2
      go_frame
      go_roundw
      case rel =>
        refine ⟨_, cnt2, ss ++ [d], _, HRG3.out, hcs2, HC2.out, by simpa using HO3.out, fun y => ?_, hb3⟩
        rw [ok26.has_put HM.out.isMap]
        have h1 := HM2.out y
        simp only [Bool.or_eq_true, decide_eq_true_eq, h1, List.mem_append, List.mem_singleton]
        constructor
        · rintro (rfl | ⟨d', h, e⟩)
          · exact ⟨d, .inr rfl, rfl⟩
          · exact ⟨d', .inl h, e⟩
        · rintro ⟨d', h | rfl, e⟩
          · exact .inr ⟨d', h, e⟩
          · exact .inl e.symm
      case measure => rw [HRG3.out.left_eq, HRG.out.left_eq]; exact HLT.out
end Go.Proofs.Ytejafcdlkpmemaa
