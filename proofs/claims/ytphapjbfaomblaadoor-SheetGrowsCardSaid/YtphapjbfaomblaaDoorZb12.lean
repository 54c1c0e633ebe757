/- Texts of this seat, one behind the other: SG. -/
import Derived.Test.YtphapjbfaomblaaDoorZb11
import Derived.Deep.AppendLies
import Derived.Deep.CutRange
/- The shelf's Put. -/
namespace Go.Proofs.YtphapjbfaomblaaDoor
open Go Go.RowKit Go.Maps
theorem bA {a w : World} (h : Below a.heap.size a w) (o : Obj) : Below a.heap.size a (w.alloc o) := h.alloc h.size o
theorem bD {a w : World} (h : Below a.heap.size a w) : Below a.heap.size a w.drew := h.drew
/-- Insert into a block's ids, in whatever world that has grown since -/
theorem put_ids {W2 : World} {b : Bl} (hb : BlIs W2 b) {k : Nat} (hk : k ≤ b.R.length) (hl : b.R.length ≤ 100000) (x : Id) (W : World) (vbk : Nat) (hW : Below W2.heap.size W2 W) (hv : W.heap[vbk]? = some (.cells (idC x).toArray 26 (0, 0))) (hvb : W2.heap.size ≤ vbk) :
    Calls Tryd.prog 82 #[b.vi, .int .i64 (k : Int), .slice (some ⟨vbk, 0, none⟩) 1 1] W fun e W' => ∃ g c, e = .returned (.slice (some ⟨g, 0, none⟩) (b.R.length + 1) c) ∧ W'.ownsRow 0 26 3 (.slice (some ⟨g, 0, none⟩) (b.R.length + 1) c) (b.R.length + 1) (((namesR b.R).take k ++ x :: (namesR b.R).drop k).flatMap idC) ∧
      SameOrNew W2 b.vi (.slice (some ⟨g, 0, none⟩) (b.R.length + 1) c) ∧ Touch (fun y => b.vi.ownBlock = some y) W2 W' ∧ ∀ (y : Nat) (o : Obj), W.heap[y]? = some o → b.vi.ownBlock ≠ some y → W'.heap[y]? = some o := by
  have h := own_grows hb.ids hW
  have hlen : (namesR b.R).length = b.R.length := names_len _
  rw [← hlen] at h
  refine (insId_any 0 b.vi (namesR b.R) k x vbk W h (by omega) (by omega) hv (fun e => ?_) (Nat.zero_le _)).mono ?_
  · have := own_lt hb.ids vbk e
    omega
  · rintro e W' ⟨v', rfl, h1, h2, h3⟩
    obtain ⟨g, c, R, rfl, _⟩ := own_parts h1 (Nat.succ_pos _)
    rw [hlen] at h1 ⊢
    refine ⟨g, c, rfl, h1, ?_, ?_, fun y o hy hn => (h2.block y (Array.getElem?_eq_some_iff.1 hy).1 (fun e => hn e.symm)).trans hy⟩
    · rcases h3 with h3 | h3
      · exact .inl (by rw [hlen] at h3; exact h3)
      · refine .inr fun g' hg' => ?_
        rw [hlen, hg'] at h3
        injection h3 with h3
        have := hW.size
        omega
    · exact (Below.touch hW (fun y => b.vi.ownBlock = some y)).trans ((Touch.refl (fun y => b.vi.ownBlock = some y) W).grown h2 (fun y hy _ => hy)) (fun y _ hy => hy)
theorem put_bools {W2 : World} {b : Bl} (hb : BlIs W2 b) {k : Nat} (hk : k ≤ b.R.length) (hl : b.R.length ≤ 100000) (q : Bool) (W : World) (vbk : Nat) (hW : Touch (fun y => b.vi.ownBlock = some y) W2 W) (hv : W.heap[vbk]? = some (.cells (boC q).toArray 4 (0, 0))) (hvb : W2.heap.size ≤ vbk) :
    Calls Tryd.prog 83 #[b.vs, .int .i64 (k : Int), .slice (some ⟨vbk, 0, none⟩) 1 1] W fun e W' => ∃ g c, e = .returned (.slice (some ⟨g, 0, none⟩) (b.R.length + 1) c) ∧ W'.ownsRow 0 4 1 (.slice (some ⟨g, 0, none⟩) (b.R.length + 1) c) (b.R.length + 1) (((seenR b.R).take k ++ q :: (seenR b.R).drop k).flatMap boC) ∧
      SameOrNew W2 b.vs (.slice (some ⟨g, 0, none⟩) (b.R.length + 1) c) ∧ Touch (fun y => b.vi.ownBlock = some y ∨ b.vs.ownBlock = some y) W2 W' ∧ ∀ (y : Nat) (o : Obj), W.heap[y]? = some o → b.vs.ownBlock ≠ some y → W'.heap[y]? = some o := by
  have h := own_touch hb.sn hW (fun g hg e => ne_kind (kind_row hb.sn hg) (kind_row hb.ids e) (by decide) rfl)
  have hlen : (seenR b.R).length = b.R.length := seenR_len _
  rw [← hlen] at h
  refine (insB_any 0 b.vs (seenR b.R) k q vbk W h (by omega) (by omega) hv (fun e => ?_) (Nat.zero_le _)).mono ?_
  · have := own_lt hb.sn vbk e
    omega
  · rintro e W' ⟨v', rfl, h1, h2, h3⟩
    obtain ⟨g, c, R, rfl, _⟩ := own_parts h1 (Nat.succ_pos _)
    rw [hlen] at h1 ⊢
    refine ⟨g, c, rfl, h1, ?_, ?_, fun y o hy hn => (h2.block y (Array.getElem?_eq_some_iff.1 hy).1 (fun e => hn e.symm)).trans hy⟩
    · rcases h3 with h3 | h3
      · exact .inl (by rw [hlen] at h3; exact h3)
      · refine .inr fun g' hg' => ?_
        rw [hlen, hg'] at h3
        injection h3 with h3
        have := hW.size
        omega
    · exact (hW.mono (G := fun y => b.vi.ownBlock = some y ∨ b.vs.ownBlock = some y) (fun y _ hy => .inl hy)).trans ((Touch.refl (fun y => b.vi.ownBlock = some y ∨ b.vs.ownBlock = some y) W).grown h2 (fun y hy _ => .inr hy)) (fun y _ hy => hy)
def PutMid (W2 : World) (b : Bl) (k : Nat) (x : Id) (q : Bool) (wx : World) : Prop :=
  ∃ v1 v2, wx.heap[b.ad]? = some (.cells #[v1, v2, .int .i64 b.n] 132 (0, 0)) ∧ wx.ownsRow 0 26 3 v1 (b.R.length + 1) (((namesR b.R).take k ++ x :: (namesR b.R).drop k).flatMap idC) ∧ wx.ownsRow 0 4 1 v2 (b.R.length + 1) (((seenR b.R).take k ++ q :: (seenR b.R).drop k).flatMap boC) ∧
    SameOrNew W2 b.vi v1 ∧ SameOrNew W2 b.vs v2 ∧ Touch (blFoot b) W2 wx
theorem own_keep {w w' : World} {base : Nat} {e : TypeId} {size n : Nat} {v : Value} {xs : List Value} (h : w.ownsRow base e size v n xs) (hk : ∀ g o, v.ownBlock = some g → w.heap[g]? = some o → w'.heap[g]? = some o) : w'.ownsRow base e size v n xs := by
  refine ⟨h.1, ?_⟩
  rcases h.2 with h1 | ⟨g, cap, cur, rfl, h2, h3, h4⟩
  · exact .inl h1
  · exact .inr ⟨g, cap, cur, rfl, h2, hk g _ rfl h3, h4⟩
theorem mid_of {W2 WA WB : World} {b : Bl} {k : Nat} {x : Id} {q : Bool} {v1 v2 : Value} (hb : BlIs W2 b)
    (hown1 : WA.ownsRow 0 26 3 v1 (b.R.length + 1) (((namesR b.R).take k ++ x :: (namesR b.R).drop k).flatMap idC)) (hsn1 : SameOrNew W2 b.vi v1) (tA0 : Touch (fun y => b.vi.ownBlock = some y) W2 WA)
    (hkAB : ∀ (y : Nat) (o : Obj), WA.heap[y]? = some o → b.vs.ownBlock ≠ some y → WB.heap[y]? = some o)
    (hown2 : WB.ownsRow 0 4 1 v2 (b.R.length + 1) (((seenR b.R).take k ++ q :: (seenR b.R).drop k).flatMap boC)) (hsn2 : SameOrNew W2 b.vs v2) (tB0 : Touch (fun y => b.vi.ownBlock = some y ∨ b.vs.ownBlock = some y) W2 WB) :
    PutMid W2 b k x q ((WB.setCell ⟨b.ad, 0, none⟩ v1).setCell ⟨b.ad, 1, none⟩ v2) := by
  have hcB := block_touch hb.cell tB0 (fun h => h.elim (fun h => ne_kind (kind_cell hb.cell) (kind_row hb.ids h) (by decide) rfl) (fun h => ne_kind (kind_cell hb.cell) (kind_row hb.sn h) (by decide) rfl))
  have hsnA := own_touch hb.sn tA0 (fun g hg e => ne_kind (kind_row hb.sn hg) (kind_row hb.ids e) (by decide) rfl)
  have h1B : WB.ownsRow 0 26 3 v1 (b.R.length + 1) (((namesR b.R).take k ++ x :: (namesR b.R).drop k).flatMap idC) :=
    own_keep hown1 (fun g o hg ho => hkAB g o ho (fun e => ne_kind (kind_row hown1 hg) (kind_row hsnA e) (by decide) rfl))
  have ts : Touch (fun y => y = b.ad) WB ((WB.setCell ⟨b.ad, 0, none⟩ v1).setCell ⟨b.ad, 1, none⟩ v2) := ((Touch.refl (fun y => y = b.ad) WB).setCell (fun _ => rfl) _).setCell (fun _ => rfl) _
  refine ⟨v1, v2, (heap_setCell3 (heap_setCell3 hcB v1).1 v2).2.1, own_touch h1B ts (fun g hg => ne_kind (kind_row h1B hg) (kind_cell hcB) (by decide)), own_touch hown2 ts (fun g hg => ne_kind (kind_row hown2 hg) (kind_cell hcB) (by decide)), hsn1, hsn2, ?_⟩
  exact (tB0.mono (G := blFoot b) (fun y _ h => h.elim (fun h => .inr (.inl h)) (fun h => .inr (.inr h)))).trans ts (fun y _ h => .inl h)
def errP (R : Row Id) (at_ : Int) (x : Id) : Int := if at_ < 0 ∨ (R.length : Int) < at_ then 100 else if x ∈ namesR R then 110 else 0
def putV (R : Row Id) (at_ : Int) (x : Id) (q : Bool) : Row Id := if errP R at_ x = 0 then putR R at_.toNat x q else R
def PutPost (F : Nat → Prop) (sb : Nat) (R : Row Id) (at_ : Int) (x : Id) (q : Bool) (w : World) (e : Ending) (w' : World) : Prop :=
  e = .returned (.int .i64 (errP R at_ x)) ∧ ∃ F', ShelfAt w' F' sb (putV R at_ x q) ∧ Touch F w w' ∧ ∀ k, F' k → F k ∨ w.heap.size ≤ k
set_option maxRecDepth 100000 in
set_option maxHeartbeats 8000000 in
theorem put_any {w : World} {F : Nat → Prop} {sb : Nat} {R0 : Row Id} (hA : ShelfAt w F sb R0) (hlen : R0.length ≤ 10000) (at_ : Int) (x : Id) (q : Bool) :
    Calls Tryd.prog 69 #[.pointer (some ⟨sb, 0, none⟩), .int .i64 at_, idV x, .bool q] w (PutPost F sb R0 at_ x q w) := by
  have HA := Lib.hid hA
  obtain ⟨mp, vb, Bs, D, t, h, hT, hfF, hFl, hBn⟩ := hA
  obtain ⟨W0, hW0⟩ : ∃ W, w.alloc (.cells #[.int .i64 x.s.T, .int .i64 x.s.R, .int .i64 x.I] 26) = W := ⟨_, rfl⟩
  have hb0 : Below w.heap.size w W0 := by rw [← hW0]; exact (Below.refl _ w).alloc (Nat.le_refl _) _
  have hx0 : W0.heap[w.heap.size]? = some (.cells #[.int .i64 x.s.T, .int .i64 x.s.R, .int .i64 x.I] 26 (0, 0)) := by rw [← hW0]; exact heap_alloc_new w _
  have h0 := h.below hb0
  obtain ⟨bx, hbx⟩ : ∃ z, w.heap.size = z := ⟨_, rfl⟩
  have hbl : bx < W0.heap.size := by rw [← hbx]; exact (Array.getElem?_eq_some_iff.1 hx0).1
  rw [hbx] at hx0
  have c1x : (w.alloc (.cells #[.int .i64 x.s.T, .int .i64 x.s.R, .int .i64 x.I] 26)).cell? ⟨sb, 1, none⟩ = some (.map (some mp)) := by rw [hW0]; exact cell_of_row _ _ 1 _ _ _ h0.cell
  have c1 : W0.cell? ⟨sb, 1, none⟩ = some (.map (some mp)) := cell_of_row _ _ 1 _ _ _ h0.cell
  have hln : ∀ ty, (Builtin.len_ #[120] ty #[.map (some mp)]).run Tryd.prog (w.alloc (.cells #[.int .i64 x.s.T, .int .i64 x.s.R, .int .i64 x.I] 26)) = .ok (.int .i64 (R0.length : Nat)) (w.alloc (.cells #[.int .i64 x.s.T, .int .i64 x.s.R, .int .i64 x.I] 26)) := fun ty => by
    rw [hW0]
    have := h0.map.len Tryd.underlying120 ty
    rw [hT.size] at this
    exact this
  have g0 : W0.cell? ⟨bx, 0, none⟩ = some (.int .i64 x.s.T) := cell_of_row _ _ 0 _ _ _ hx0
  have g1 : W0.cell? ⟨bx, 1, none⟩ = some (.int .i64 x.s.R) := cell_of_row _ _ 1 _ _ _ hx0
  have g2 : W0.cell? ⟨bx, 2, none⟩ = some (.int .i64 x.I) := cell_of_row _ _ 2 _ _ _ hx0
  have hlk := (h0.below (Below.refl _ W0).drew).look hT.fm x
  have hlk' := h0.look hT.fm x
  unfold idV at hlk hlk'
  have HB0 := Lib.hid hb0
  have HW0 := Lib.hid hW0
  have HBX := Lib.hid hbx
  have HX0 := Lib.hid hx0
  have HS0 := Lib.hid h0
  have HT := Lib.hid hT
  have HFF := Lib.hid hfF
  have HFL := Lib.hid hFl
  have hsame : ∀ W, Below w.heap.size w W → errP R0 at_ x ≠ 0 → PutPost F sb R0 at_ x q w (.returned (.int .i64 (errP R0 at_ x))) W := fun W hW he => ⟨rfl, F, by unfold putV; rw [if_neg he]; exact HA.out.below hW, Below.touch hW F, fun k hk => .inl hk⟩
  have HSAME := Lib.hid hsame
  clear h hfF hFl hW0 hb0 hx0 h0 hbx hsame
  by_cases hneg : at_ < 0
  · have HE := Lib.hid (show errP R0 at_ x = 100 from by unfold errP; rw [if_pos (.inl hneg)])
    clear hlk hlk' hT
    unfold idV
    go_enter Tryd.func69, Tryd.ntmps69
    go_wp2
    go_ret
    have := HSAME.out _ (show Below w.heap.size w (w.alloc (.cells #[.int .i64 x.s.T, .int .i64 x.s.R, .int .i64 x.I] 26)) from HW0.out ▸ HB0.out) (by rw [HE.out]; decide)
    rw [HE.out] at this
    exact this
  · by_cases hbig : (R0.length : Int) < at_
    · have HE := Lib.hid (show errP R0 at_ x = 100 from by unfold errP; rw [if_pos (.inr hbig)])
      clear hlk hlk' hT
      unfold idV
      go_enter Tryd.func69, Tryd.ntmps69
      go_wp2
      go_ret
      have := HSAME.out _ (show Below w.heap.size w (w.alloc (.cells #[.int .i64 x.s.T, .int .i64 x.s.R, .int .i64 x.I] 26)) from HW0.out ▸ HB0.out) (by rw [HE.out]; decide)
      rw [HE.out] at this
      exact this
    · by_cases hx : x ∈ namesR R0
      · have HE := Lib.hid (show errP R0 at_ x = 110 from by unfold errP; rw [if_neg (by omega), if_pos hx])
        obtain ⟨pre, b, post, _, _, _, hin⟩ := inF_some (hT.row.symm ▸ hx)
        rw [hin] at hlk hlk'
        dsimp only [Option.getD_some, ptV] at hlk hlk'
        clear hin hT
        unfold idV
        go_enter Tryd.func69, Tryd.ntmps69
        go_wp2
        rw [HW0.out, HBX.out]
        go_region
        go_wp2
        go_ret
        have := HSAME.out _ HB0.out.drew (by rw [HE.out]; decide)
        rw [HE.out] at this
        exact this
      · have hin := inF_none (Bs := Bs) (x := x) (by rw [hT.row]; exact hx)
        rw [hin] at hlk hlk'
        dsimp only [Option.getD_none, ptV] at hlk hlk'
        obtain ⟨a, rfl⟩ : ∃ a : Nat, at_ = (a : Int) := ⟨at_.toNat, by omega⟩
        have ha : a ≤ R0.length := by omega
        have HE := Lib.hid (show errP R0 (a : Int) x = 0 from by unfold errP; rw [if_neg (by omega), if_neg hx])
        obtain ⟨w1, hw1⟩ : ∃ W, W0.drew = W := ⟨_, rfl⟩
        have hb1 : Below W0.heap.size W0 w1 := by rw [← hw1]; exact (Below.refl _ W0).drew
        have HSP := Lib.hid (spot_any (HS0.out.below hb1) HT.out (by omega) (by omega) a ha)
        have HB1 := Lib.hid hb1
        have HW1 := Lib.hid hw1
        have HNX := Lib.hid hx
        clear hin hT hx hb1 hw1
        unfold idV
        go_enter Tryd.func69, Tryd.ntmps69
        go_wp2
        rw [HW0.out, HBX.out]
        go_region
        rw [HW1.out]
        go_wp2_with fail
        refine HSP.out.mono ?_
        rintro e W2 ⟨pre, b, post, vb2, k, rfl, hS2, hT2, hsum, hk, ht2, hf2, hn2⟩
        have hbxF : ¬ foot sb mp vb Bs bx := fun hh => by
          have := HFL.out bx (HFF.out bx hh)
          have := HBX.out
          omega
        have hbxF' : ¬ foot sb mp vb2 (pre ++ b :: post) bx := fun hh => by
          rcases hf2 bx hh with h | h
          · exact hbxF h
          · have := HB1.out.size
            omega
        have hx2 : W2.heap[bx]? = some (.cells #[.int .i64 x.s.T, .int .i64 x.s.R, .int .i64 x.I] 26 (0, 0)) :=
          (ht2.block bx (Nat.lt_of_lt_of_le hbl HB1.out.size) hbxF).trans ((HB1.out.block bx hbl).trans HX0.out)
        have hbm := hS2.bl b (by simp)
        have hcell := hbm.cell
        have hbR : b.R.length ≤ R0.length := by rw [← hT2.row, rowOf_app, rowOf_cons]; simp only [List.length_append]; omega
        have HS2 := Lib.hid hS2
        have HT2 := Lib.hid hT2
        have HT2o := Lib.hid ht2
        have HF2 := Lib.hid hf2
        have HSUM := Lib.hid hsum
        have HBM := Lib.hid hbm
        have HNB := Lib.hid (show ¬ (bx = b.ad ∨ b.vi.ownBlock = some bx ∨ b.vs.ownBlock = some bx) from fun h => hbxF' (.inr (.inr (.inr ⟨b, by simp, h⟩))))
        have hbxl2 : bx < W2.heap.size := (Array.getElem?_eq_some_iff.1 hx2).1
        have hadl : b.ad < W2.heap.size := kind_lt (kind_cell hcell)
        have HPI := Lib.hid (fun W vbk (h1 : Below W2.heap.size W2 W) (h2 : W.heap[vbk]? = some (.cells (idC x).toArray 26 (0, 0))) (h3 : W2.heap.size ≤ vbk) => put_ids hbm hk (by omega) x W vbk h1 h2 h3)
        have HPB := Lib.hid (fun W vbk (h1 : Touch (fun y => b.vi.ownBlock = some y) W2 W) (h2 : W.heap[vbk]? = some (.cells (boC q).toArray 4 (0, 0))) (h3 : W2.heap.size ≤ vbk) => put_bools hbm hk (by omega) q W vbk h1 h2 h3)
        have HXL := Lib.hid hx2
        have HCL := Lib.hid hcell
        clear hS2 hT2 ht2 hf2 hsum hbm hbxF hbxF' hlk hlk' c1 c1x hln g0 g1 g2 hx2 hcell HSP
        go_upto_region 6 with (fail)
        go_cut [] from 126 to 129 (fun wx => PutMid W2 b k x q wx)
        case first =>
          clear HSAME HS0 HT HFF HFL HE HB1 HW1 HNX HS2 HT2 HT2o HF2 HSUM HA HB0 HW0 HX0
          have e0 : W2.cell? ⟨b.ad, 0, none⟩ = some b.vi := cell_of_row _ _ 0 _ _ _ HCL.out
          have e1 : W2.cell? ⟨b.ad, 1, none⟩ = some b.vs := cell_of_row _ _ 1 _ _ _ HCL.out
          have ea0 : ∀ o, (W2.alloc o).cell? ⟨b.ad, 0, none⟩ = some b.vi := fun o => by rw [World.cell?_of_block (Below.heap_alloc _ _ _ hadl)]; exact e0
          have ea1 : ∀ o, (W2.alloc o).cell? ⟨b.ad, 1, none⟩ = some b.vs := fun o => by rw [World.cell?_of_block (Below.heap_alloc _ _ _ hadl)]; exact e1
          have eb0 : ∀ o o', ((W2.alloc o).alloc o').cell? ⟨b.ad, 0, none⟩ = some b.vi := fun o o' => by rw [World.cell?_of_block (Below.heap_alloc _ _ _ (show b.ad < (W2.alloc o).heap.size by rw [World.size_alloc]; omega))]; exact ea0 o
          have eb1 : ∀ o o', ((W2.alloc o).alloc o').cell? ⟨b.ad, 1, none⟩ = some b.vs := fun o o' => by rw [World.cell?_of_block (Below.heap_alloc _ _ _ (show b.ad < (W2.alloc o).heap.size by rw [World.size_alloc]; omega))]; exact ea1 o
          have hnbx : ¬ blFoot b bx := fun h => by
            rcases h with h | h | h
            · exact ne_kind (kind_cell HXL.out) (kind_cell HCL.out) (by decide) h
            · have := own_lt HBM.out.ids bx h
              exact HNB.out (.inr (.inl h))
            · exact HNB.out (.inr (.inr h))
          have HSx := Lib.hid (fun W' (hW : Touch (blFoot b) W2 W') => (show W'.cell? ⟨bx, 0, none⟩ = some (.int .i64 x.s.T) ∧ W'.cell? ⟨bx, 1, none⟩ = some (.int .i64 x.s.R) ∧ W'.cell? ⟨bx, 2, none⟩ = some (.int .i64 x.I) from by
            have hh := block_touch HXL.out hW hnbx
            exact ⟨cell_of_row _ _ 0 _ _ _ hh, cell_of_row _ _ 1 _ _ _ hh, cell_of_row _ _ 2 _ _ _ hh⟩))
          have tR : Touch (blFoot b) W2 W2 := Touch.refl _ _
          clear hnbx
          have HSy := Lib.hid (fun W' (hW : Touch (fun y => b.vi.ownBlock = some y ∨ b.vs.ownBlock = some y) W2 W') => (show (fun W' => W'.cell? ⟨bx, 0, none⟩ = some (.int .i64 x.s.T) ∧ W'.cell? ⟨bx, 1, none⟩ = some (.int .i64 x.s.R) ∧ W'.cell? ⟨bx, 2, none⟩ = some (.int .i64 x.I) ∧ W'.cell? ⟨b.ad, 0, none⟩ = some b.vi ∧ W'.cell? ⟨b.ad, 1, none⟩ = some b.vs) W' from by
            have hh := block_touch HXL.out hW (fun h => HNB.out (.inr h))
            have hc := block_touch HCL.out hW (fun h => h.elim (fun h => ne_kind (kind_cell HCL.out) (kind_row HBM.out.ids h) (by decide) rfl) (fun h => ne_kind (kind_cell HCL.out) (kind_row HBM.out.sn h) (by decide) rfl))
            exact ⟨cell_of_row _ _ 0 _ _ _ hh, cell_of_row _ _ 1 _ _ _ hh, cell_of_row _ _ 2 _ _ _ hh, cell_of_row _ _ 0 _ _ _ hc, cell_of_row _ _ 1 _ _ _ hc⟩))
          have tR : Touch (fun y => b.vi.ownBlock = some y ∨ b.vs.ownBlock = some y) W2 W2 := Touch.refl _ _
          clear HSx e0 e1 ea0 ea1 eb0 eb1
          refine wp_region_any rfl ?_
          change wpAny _ _ _ _ 24 #[false, false, false, false, false, false, false, false, false, false, false, false, false, false, false, false, false, false, false, false, false, false, false, false] _ (World.drew _)
          refine' wpAny_take (i := 0) (v := _) rfl (by kernel_rfl) (by kernel_rfl) (by kernel_rfl) (fun _ _ _ h => h) (Or.inl ⟨by rfl, ?hy1⟩) ?rest1
          case hy1 => (intro w'; go_simp; (try with_reducible rfl))
          try simp only [Act.put, List.setIfInBounds_toArray, List.set_cons_zero]
          refine' wpAny_take (i := 1) (v := _) rfl (by kernel_rfl) (by kernel_rfl) (by kernel_rfl) (fun _ _ _ h => h) (Or.inl ⟨by rfl, ?hy2⟩) ?rest2
          case hy2 => (intro w'; go_simp; (try with_reducible rfl))
          try simp only [Act.put, List.setIfInBounds_toArray, List.set_cons_zero, List.set_cons_succ]
          refine' wpAny_take (i := 2) (v := _) rfl (by kernel_rfl) (by kernel_rfl) (by kernel_rfl) (fun _ _ _ h => h) (Or.inl ⟨by rfl, ?hy3⟩) ?rest3
          case hy3 => (intro w'; go_simp; (try with_reducible rfl))
          try simp only [Act.put, List.setIfInBounds_toArray, List.set_cons_zero, List.set_cons_succ]
          refine' wpAny_take (i := 3) (v := _) rfl (by kernel_rfl) (by kernel_rfl) (by kernel_rfl) (fun _ _ _ h => h) (Or.inl ⟨by rfl, ?hy4⟩) ?rest4
          case hy4 => (intro w'; go_simp; (try with_reducible rfl))
          try simp only [Act.put, List.setIfInBounds_toArray, List.set_cons_zero, List.set_cons_succ]
          refine' wpAny_take (i := 4) (v := _) rfl (by kernel_rfl) (by kernel_rfl) (by kernel_rfl) (fun _ _ _ h => h) (Or.inl ⟨by rfl, ?hy5⟩) ?rest5
          case hy5 => (intro w'; go_simp; (try with_reducible rfl))
          try simp only [Act.put, List.setIfInBounds_toArray, List.set_cons_zero, List.set_cons_succ]
          refine' wpAny_take (i := 6) (v := _) rfl (by kernel_rfl) (by kernel_rfl) (by kernel_rfl) (fun _ _ _ h => h) (Or.inl ⟨by rfl, ?hy6⟩) ?rest6
          case hy6 => (intro w'; go_simp; (try with_reducible rfl))
          try simp only [Act.put, List.setIfInBounds_toArray, List.set_cons_zero, List.set_cons_succ]
          refine' wpAny_take (i := 10) (v := _) rfl (by kernel_rfl) (by kernel_rfl) (by kernel_rfl) (fun _ _ _ h => h) (Or.inl ⟨by rfl, ?hy7⟩) ?rest7
          case hy7 => (intro w'; go_simp; (try with_reducible rfl))
          try simp only [Act.put, List.setIfInBounds_toArray, List.set_cons_zero, List.set_cons_succ]
          refine' wpAny_take (i := 11) (v := _) rfl (by kernel_rfl) (by kernel_rfl) (by kernel_rfl) (fun _ _ _ h => h) (Or.inl ⟨by rfl, ?hy8⟩) ?rest8
          case hy8 => (intro w'; go_simp; (try with_reducible rfl))
          try simp only [Act.put, List.setIfInBounds_toArray, List.set_cons_zero, List.set_cons_succ]
          refine' wpAny_take (i := 12) (v := _) rfl (by kernel_rfl) (by kernel_rfl) (by kernel_rfl) (fun _ _ _ h => h) (Or.inl ⟨by rfl, ?hy9⟩) ?rest9
          case hy9 => (intro w'; go_simp; (try with_reducible rfl))
          try simp only [Act.put, List.setIfInBounds_toArray, List.set_cons_zero, List.set_cons_succ]
          refine' wpAny_take (i := 14) (v := _) rfl (by kernel_rfl) (by kernel_rfl) (by kernel_rfl) (fun _ _ _ h => h) (Or.inl ⟨by rfl, ?hy10⟩) ?rest10
          case hy10 => (intro w'; go_simp; (try with_reducible rfl))
          try simp only [Act.put, List.setIfInBounds_toArray, List.set_cons_zero, List.set_cons_succ]
          refine' wpAny_take (i := 15) (v := _) rfl (by kernel_rfl) (by kernel_rfl) (by kernel_rfl) (fun _ _ _ h => h) (Or.inl ⟨by rfl, ?hy11⟩) ?rest11
          case hy11 => (intro w'; go_simp; (try with_reducible rfl))
          try simp only [Act.put, List.setIfInBounds_toArray, List.set_cons_zero, List.set_cons_succ]
          refine HeadH.of (n := 18) (g := 6) (S := (fun W' => W'.cell? ⟨bx, 0, none⟩ = some (.int .i64 x.s.T) ∧ W'.cell? ⟨bx, 1, none⟩ = some (.int .i64 x.s.R) ∧ W'.cell? ⟨bx, 2, none⟩ = some (.int .i64 x.I) ∧ W'.cell? ⟨b.ad, 0, none⟩ = some b.vi ∧ W'.cell? ⟨b.ad, 1, none⟩ = some b.vs)) 7 _ _ _ ?_
          refine' HeadH.take (i := 5) (v := _) rfl (by kernel_rfl) (by kernel_rfl) (by kernel_rfl) (fun _ _ _ h => h) (Or.inl ⟨by rfl, ?hy12⟩) ?hS12 ?rest12
          case hy12 => (intro w' hSw; (try dsimp only at hSw); go_simp; (try with_reducible rfl))
          case hS12 => (first | exact HSy.out _ tR.drew | exact HSy.out _ (tR.drew.alloc _) | exact HSy.out _ (tR.alloc _).drew | exact HSy.out _ ((tR.drew.alloc _).alloc _) | exact HSy.out _ ((tR.alloc _).alloc _).drew | exact HSy.out _ tY | exact HSy.out _ (tY.alloc _) | exact HSy.out _ tZ)
          try simp only [Act.put, List.setIfInBounds_toArray, List.set_cons_zero, List.set_cons_succ]
          refine' HeadH.take (i := 7) (v := _) rfl (by kernel_rfl) (by kernel_rfl) (by kernel_rfl) (fun _ _ _ h => h) (Or.inl ⟨by rfl, ?hy13⟩) ?hS13 ?rest13
          case hy13 => (intro w' hSw; (try dsimp only at hSw); go_simp; (try with_reducible rfl))
          case hS13 => (first | exact HSy.out _ tR.drew | exact HSy.out _ (tR.drew.alloc _) | exact HSy.out _ (tR.alloc _).drew | exact HSy.out _ ((tR.drew.alloc _).alloc _) | exact HSy.out _ ((tR.alloc _).alloc _).drew | exact HSy.out _ tY | exact HSy.out _ (tY.alloc _) | exact HSy.out _ tZ)
          try simp only [Act.put, List.setIfInBounds_toArray, List.set_cons_zero, List.set_cons_succ]
          refine' HeadH.take (i := 13) (v := _) rfl (by kernel_rfl) (by kernel_rfl) (by kernel_rfl) (fun _ _ _ h => h) (Or.inl ⟨by rfl, ?hy14⟩) ?hS14 ?rest14
          case hy14 => (intro w' hSw; (try dsimp only at hSw); go_simp; (try with_reducible rfl))
          case hS14 => (first | exact HSy.out _ tR.drew | exact HSy.out _ (tR.drew.alloc _) | exact HSy.out _ (tR.alloc _).drew | exact HSy.out _ ((tR.drew.alloc _).alloc _) | exact HSy.out _ ((tR.alloc _).alloc _).drew | exact HSy.out _ tY | exact HSy.out _ (tY.alloc _) | exact HSy.out _ tZ)
          try simp only [Act.put, List.setIfInBounds_toArray, List.set_cons_zero, List.set_cons_succ]
          refine HeadH.all (rs := [8, 16]) (by kernel_rfl) rfl ?_
          refine HeadAll.cons rfl (by kernel_rfl) (fun K hK => ?_) ?_
          · skip
            go_simp
            refine hK.out _ _ (by (first | exact HSy.out _ tR.drew | exact HSy.out _ (tR.drew.alloc _) | exact HSy.out _ (tR.alloc _).drew | exact HSy.out _ ((tR.drew.alloc _).alloc _) | exact HSy.out _ ((tR.alloc _).alloc _).drew | exact HSy.out _ tY | exact HSy.out _ (tY.alloc _) | exact HSy.out _ tZ)) (fun hHeld => ?_)
            clear hK K
            try simp only [List.setIfInBounds_toArray, List.set_cons_zero, List.set_cons_succ]
            refine HeadH.all (rs := [9, 16]) (by kernel_rfl) rfl ?_
            refine HeadAll.cons rfl (by kernel_rfl) (fun K hK => ?_) ?_
            · skip
              go_simp
              go_at_call 82
              refine (HPI.out _ _ (by first | exact bD (bA (Below.refl _ _) _) | exact bD (bA (bA (Below.refl _ _) _) _) | exact bA (bD (Below.refl _ _)) _ | exact bA (bA (bD (Below.refl _ _)) _) _) (by first | exact heap_alloc_new W2 _ | exact heap_alloc2_old W2 _ _ | exact heap_alloc2_new W2 _ _) (by first | exact Nat.le_refl _ | exact Nat.le_succ _)).mono ?_
              rintro e WA ⟨g1, cp1, rfl, hown1, hsn1, tA0, hkA⟩
              have tA : Touch (blFoot b) W2 WA := tA0.mono (fun _ _ h => .inr (.inl h))
              have hcA := block_touch HCL.out tA0 (fun h => ne_kind (kind_cell HCL.out) (kind_row HBM.out.ids h) (by decide) rfl)
              have a0 : WA.cell? ⟨b.ad, 0, none⟩ = some b.vi := cell_of_row _ _ 0 _ _ _ hcA
              have a1 : WA.cell? ⟨b.ad, 1, none⟩ = some b.vs := cell_of_row _ _ 1 _ _ _ hcA
              have aa1 : ∀ o, (WA.alloc o).cell? ⟨b.ad, 1, none⟩ = some b.vs := fun o => (by rw [World.cell?_of_block (Below.heap_alloc _ _ _ (Nat.lt_of_lt_of_le hadl tA0.size))]; exact a1)
              have tY : Touch (fun y => b.vi.ownBlock = some y ∨ b.vs.ownBlock = some y) W2 WA := tA0.mono (fun _ _ h => .inl h)
              try go_wp2_with fail
              refine hK.out _ _ (by (first | exact HSy.out _ tR.drew | exact HSy.out _ (tR.drew.alloc _) | exact HSy.out _ (tR.alloc _).drew | exact HSy.out _ ((tR.drew.alloc _).alloc _) | exact HSy.out _ ((tR.alloc _).alloc _).drew | exact HSy.out _ tY | exact HSy.out _ (tY.alloc _) | exact HSy.out _ tZ)) (fun hHeld => ?_)
              clear hK K
              try simp only [List.setIfInBounds_toArray, List.set_cons_zero, List.set_cons_succ]
              refine HeadH.all (rs := [16]) (by kernel_rfl) rfl ?_
              refine HeadAll.cons rfl (by kernel_rfl) (fun K hK => ?_) ?_
              · skip
                go_simp
                refine hK.out _ _ (by (first | exact HSy.out _ tR.drew | exact HSy.out _ (tR.drew.alloc _) | exact HSy.out _ (tR.alloc _).drew | exact HSy.out _ ((tR.drew.alloc _).alloc _) | exact HSy.out _ ((tR.alloc _).alloc _).drew | exact HSy.out _ tY | exact HSy.out _ (tY.alloc _) | exact HSy.out _ tZ)) (fun hHeld => ?_)
                clear hK K
                try simp only [List.setIfInBounds_toArray, List.set_cons_zero, List.set_cons_succ]
                refine HeadH.all (rs := [17]) (by kernel_rfl) rfl ?_
                refine HeadAll.cons rfl (by kernel_rfl) (fun K hK => ?_) ?_
                · skip
                  go_simp
                  go_at_call 83
                  refine (HPB.out _ _ (by first | exact tA0 | exact tA0.alloc _) (by first | exact heap_alloc_new WA _ | exact hkA _ _ (heap_alloc2_old W2 _ _) (fun h => by have := own_lt HBM.out.ids _ h; omega) | exact hkA _ _ (heap_alloc2_new W2 _ _) (fun h => by have := own_lt HBM.out.ids _ h; omega)) (by first | exact tA0.size | exact Nat.le_refl _ | exact Nat.le_succ _)).mono ?_
                  rintro e WB ⟨g2, cp2, rfl, hown2, hsn2, tB0, hkB⟩
                  have tB : Touch (blFoot b) W2 WB := tB0.mono (fun _ _ h => h.elim (fun h => .inr (.inl h)) (fun h => .inr (.inr h)))
                  have hcB := block_touch HCL.out tB0 (fun h => h.elim (fun h => ne_kind (kind_cell HCL.out) (kind_row HBM.out.ids h) (by decide) rfl) (fun h => ne_kind (kind_cell HCL.out) (kind_row HBM.out.sn h) (by decide) rfl))
                  have b0 : WB.cell? ⟨b.ad, 0, none⟩ = some b.vi := cell_of_row _ _ 0 _ _ _ hcB
                  have b1 : WB.cell? ⟨b.ad, 1, none⟩ = some b.vs := cell_of_row _ _ 1 _ _ _ hcB
                  have hkAB : ∀ (y : Nat) (o : Obj), WA.heap[y]? = some o → b.vs.ownBlock ≠ some y → WB.heap[y]? = some o := (by first | exact hkB | exact fun y o h hn => hkB y o ((Below.heap_alloc _ _ _ (Array.getElem?_eq_some_iff.1 h).1).trans h) hn)
                  have bf : ∀ i, WB.frozen? ⟨b.ad, i, none⟩ = false := fun i => (by simp [World.frozen?, hcB])
                  have tZ : Touch (fun y => b.vi.ownBlock = some y ∨ b.vs.ownBlock = some y) W2 WB := tB0
                  try go_wp2_with fail
                  refine hK.out _ _ (by (first | exact HSy.out _ tR.drew | exact HSy.out _ (tR.drew.alloc _) | exact HSy.out _ (tR.alloc _).drew | exact HSy.out _ ((tR.drew.alloc _).alloc _) | exact HSy.out _ ((tR.alloc _).alloc _).drew | exact HSy.out _ tY | exact HSy.out _ (tY.alloc _) | exact HSy.out _ tZ)) (fun hHeld => ?_)
                  clear hK K
                  try simp only [List.setIfInBounds_toArray, List.set_cons_zero, List.set_cons_succ]
                  refine HeadH.done (by kernel_rfl) ?_
                  refine' wpAny_take (i := 18) (v := _) rfl (by kernel_rfl) (by kernel_rfl) (by kernel_rfl) (fun _ _ _ h => h) (Or.inl ⟨by rfl, ?hy15⟩) ?rest15
                  case hy15 => (intro w'; go_simp; (try with_reducible rfl))
                  try simp only [Act.put, List.setIfInBounds_toArray, List.set_cons_zero, List.set_cons_succ]
                  refine' wpAny_take (i := 19) (v := _) rfl (by kernel_rfl) (by kernel_rfl) (by kernel_rfl) (fun _ _ _ h => h) (Or.inl ⟨by rfl, ?hy16⟩) ?rest16
                  case hy16 => (intro w'; go_simp; (try with_reducible rfl))
                  try simp only [Act.put, List.setIfInBounds_toArray, List.set_cons_zero, List.set_cons_succ]
                  refine wpAny_ready (rs := [20]) (by kernel_rfl) (by simp) (AllReady.cons rfl (fun K hK => ?_) AllReady.nil)
                  go_simp
                  refine hK _ _ ?_
                  clear hK K
                  try simp only [List.setIfInBounds_toArray, List.set_cons_zero, List.set_cons_succ]
                  refine' wpAny_take (i := 21) (v := _) rfl (by kernel_rfl) (by kernel_rfl) (by kernel_rfl) (fun _ _ _ h => h) (Or.inl ⟨by rfl, ?hy17⟩) ?rest17
                  case hy17 => (intro w'; go_simp; (try with_reducible rfl))
                  try simp only [Act.put, List.setIfInBounds_toArray, List.set_cons_zero, List.set_cons_succ]
                  refine' wpAny_take (i := 22) (v := _) rfl (by kernel_rfl) (by kernel_rfl) (by kernel_rfl) (fun _ _ _ h => h) (Or.inl ⟨by rfl, ?hy18⟩) ?rest18
                  case hy18 => (intro w'; go_simp; (try with_reducible rfl))
                  try simp only [Act.put, List.setIfInBounds_toArray, List.set_cons_zero, List.set_cons_succ]
                  refine wpAny_ready (rs := [23]) (by kernel_rfl) (by simp) (AllReady.cons rfl (fun K hK => ?_) AllReady.nil)
                  go_simp
                  refine hK _ _ ?_
                  clear hK K
                  try simp only [List.setIfInBounds_toArray, List.set_cons_zero, List.set_cons_succ]
                  refine wpAny_done (by kernel_rfl) ?_ _
                  go_wp2_with fail
                  go_meet
                  exact mid_of HBM.out hown1 hsn1 tA0 hkAB hown2 hsn2 tB0
                exact HeadAll.nil
              exact HeadAll.nil
            refine HeadAll.cons rfl (by kernel_rfl) (fun K hK => ?_) ?_
            · skip
              go_simp
              refine hK.out _ _ (by (first | exact HSy.out _ tR.drew | exact HSy.out _ (tR.drew.alloc _) | exact HSy.out _ (tR.alloc _).drew | exact HSy.out _ ((tR.drew.alloc _).alloc _) | exact HSy.out _ ((tR.alloc _).alloc _).drew | exact HSy.out _ tY | exact HSy.out _ (tY.alloc _) | exact HSy.out _ tZ)) (fun hHeld => ?_)
              clear hK K
              try simp only [List.setIfInBounds_toArray, List.set_cons_zero, List.set_cons_succ]
              refine HeadH.all (rs := [9]) (by kernel_rfl) rfl ?_
              refine HeadAll.cons rfl (by kernel_rfl) (fun K hK => ?_) ?_
              · skip
                go_simp
                go_at_call 82
                refine (HPI.out _ _ (by first | exact bD (bA (Below.refl _ _) _) | exact bD (bA (bA (Below.refl _ _) _) _) | exact bA (bD (Below.refl _ _)) _ | exact bA (bA (bD (Below.refl _ _)) _) _) (by first | exact heap_alloc_new W2 _ | exact heap_alloc2_old W2 _ _ | exact heap_alloc2_new W2 _ _) (by first | exact Nat.le_refl _ | exact Nat.le_succ _)).mono ?_
                rintro e WA ⟨g1, cp1, rfl, hown1, hsn1, tA0, hkA⟩
                have tA : Touch (blFoot b) W2 WA := tA0.mono (fun _ _ h => .inr (.inl h))
                have hcA := block_touch HCL.out tA0 (fun h => ne_kind (kind_cell HCL.out) (kind_row HBM.out.ids h) (by decide) rfl)
                have a0 : WA.cell? ⟨b.ad, 0, none⟩ = some b.vi := cell_of_row _ _ 0 _ _ _ hcA
                have a1 : WA.cell? ⟨b.ad, 1, none⟩ = some b.vs := cell_of_row _ _ 1 _ _ _ hcA
                have aa1 : ∀ o, (WA.alloc o).cell? ⟨b.ad, 1, none⟩ = some b.vs := fun o => (by rw [World.cell?_of_block (Below.heap_alloc _ _ _ (Nat.lt_of_lt_of_le hadl tA0.size))]; exact a1)
                have tY : Touch (fun y => b.vi.ownBlock = some y ∨ b.vs.ownBlock = some y) W2 WA := tA0.mono (fun _ _ h => .inl h)
                try go_wp2_with fail
                refine hK.out _ _ (by (first | exact HSy.out _ tR.drew | exact HSy.out _ (tR.drew.alloc _) | exact HSy.out _ (tR.alloc _).drew | exact HSy.out _ ((tR.drew.alloc _).alloc _) | exact HSy.out _ ((tR.alloc _).alloc _).drew | exact HSy.out _ tY | exact HSy.out _ (tY.alloc _) | exact HSy.out _ tZ)) (fun hHeld => ?_)
                clear hK K
                try simp only [List.setIfInBounds_toArray, List.set_cons_zero, List.set_cons_succ]
                refine HeadH.all (rs := [17]) (by kernel_rfl) rfl ?_
                refine HeadAll.cons rfl (by kernel_rfl) (fun K hK => ?_) ?_
                · skip
                  go_simp
                  go_at_call 83
                  refine (HPB.out _ _ (by first | exact tA0 | exact tA0.alloc _) (by first | exact heap_alloc_new WA _ | exact hkA _ _ (heap_alloc2_old W2 _ _) (fun h => by have := own_lt HBM.out.ids _ h; omega) | exact hkA _ _ (heap_alloc2_new W2 _ _) (fun h => by have := own_lt HBM.out.ids _ h; omega)) (by first | exact tA0.size | exact Nat.le_refl _ | exact Nat.le_succ _)).mono ?_
                  rintro e WB ⟨g2, cp2, rfl, hown2, hsn2, tB0, hkB⟩
                  have tB : Touch (blFoot b) W2 WB := tB0.mono (fun _ _ h => h.elim (fun h => .inr (.inl h)) (fun h => .inr (.inr h)))
                  have hcB := block_touch HCL.out tB0 (fun h => h.elim (fun h => ne_kind (kind_cell HCL.out) (kind_row HBM.out.ids h) (by decide) rfl) (fun h => ne_kind (kind_cell HCL.out) (kind_row HBM.out.sn h) (by decide) rfl))
                  have b0 : WB.cell? ⟨b.ad, 0, none⟩ = some b.vi := cell_of_row _ _ 0 _ _ _ hcB
                  have b1 : WB.cell? ⟨b.ad, 1, none⟩ = some b.vs := cell_of_row _ _ 1 _ _ _ hcB
                  have hkAB : ∀ (y : Nat) (o : Obj), WA.heap[y]? = some o → b.vs.ownBlock ≠ some y → WB.heap[y]? = some o := (by first | exact hkB | exact fun y o h hn => hkB y o ((Below.heap_alloc _ _ _ (Array.getElem?_eq_some_iff.1 h).1).trans h) hn)
                  have bf : ∀ i, WB.frozen? ⟨b.ad, i, none⟩ = false := fun i => (by simp [World.frozen?, hcB])
                  have tZ : Touch (fun y => b.vi.ownBlock = some y ∨ b.vs.ownBlock = some y) W2 WB := tB0
                  try go_wp2_with fail
                  refine hK.out _ _ (by (first | exact HSy.out _ tR.drew | exact HSy.out _ (tR.drew.alloc _) | exact HSy.out _ (tR.alloc _).drew | exact HSy.out _ ((tR.drew.alloc _).alloc _) | exact HSy.out _ ((tR.alloc _).alloc _).drew | exact HSy.out _ tY | exact HSy.out _ (tY.alloc _) | exact HSy.out _ tZ)) (fun hHeld => ?_)
                  clear hK K
                  try simp only [List.setIfInBounds_toArray, List.set_cons_zero, List.set_cons_succ]
                  refine HeadH.done (by kernel_rfl) ?_
                  refine' wpAny_take (i := 18) (v := _) rfl (by kernel_rfl) (by kernel_rfl) (by kernel_rfl) (fun _ _ _ h => h) (Or.inl ⟨by rfl, ?hy19⟩) ?rest19
                  case hy19 => (intro w'; go_simp; (try with_reducible rfl))
                  try simp only [Act.put, List.setIfInBounds_toArray, List.set_cons_zero, List.set_cons_succ]
                  refine' wpAny_take (i := 19) (v := _) rfl (by kernel_rfl) (by kernel_rfl) (by kernel_rfl) (fun _ _ _ h => h) (Or.inl ⟨by rfl, ?hy20⟩) ?rest20
                  case hy20 => (intro w'; go_simp; (try with_reducible rfl))
                  try simp only [Act.put, List.setIfInBounds_toArray, List.set_cons_zero, List.set_cons_succ]
                  refine wpAny_ready (rs := [20]) (by kernel_rfl) (by simp) (AllReady.cons rfl (fun K hK => ?_) AllReady.nil)
                  go_simp
                  refine hK _ _ ?_
                  clear hK K
                  try simp only [List.setIfInBounds_toArray, List.set_cons_zero, List.set_cons_succ]
                  refine' wpAny_take (i := 21) (v := _) rfl (by kernel_rfl) (by kernel_rfl) (by kernel_rfl) (fun _ _ _ h => h) (Or.inl ⟨by rfl, ?hy21⟩) ?rest21
                  case hy21 => (intro w'; go_simp; (try with_reducible rfl))
                  try simp only [Act.put, List.setIfInBounds_toArray, List.set_cons_zero, List.set_cons_succ]
                  refine' wpAny_take (i := 22) (v := _) rfl (by kernel_rfl) (by kernel_rfl) (by kernel_rfl) (fun _ _ _ h => h) (Or.inl ⟨by rfl, ?hy22⟩) ?rest22
                  case hy22 => (intro w'; go_simp; (try with_reducible rfl))
                  try simp only [Act.put, List.setIfInBounds_toArray, List.set_cons_zero, List.set_cons_succ]
                  refine wpAny_ready (rs := [23]) (by kernel_rfl) (by simp) (AllReady.cons rfl (fun K hK => ?_) AllReady.nil)
                  go_simp
                  refine hK _ _ ?_
                  clear hK K
                  try simp only [List.setIfInBounds_toArray, List.set_cons_zero, List.set_cons_succ]
                  refine wpAny_done (by kernel_rfl) ?_ _
                  go_wp2_with fail
                  go_meet
                  exact mid_of HBM.out hown1 hsn1 tA0 hkAB hown2 hsn2 tB0
                exact HeadAll.nil
              exact HeadAll.nil
            exact HeadAll.nil
          refine HeadAll.cons rfl (by kernel_rfl) (fun K hK => ?_) ?_
          · skip
            go_simp
            refine hK.out _ _ (by (first | exact HSy.out _ tR.drew | exact HSy.out _ (tR.drew.alloc _) | exact HSy.out _ (tR.alloc _).drew | exact HSy.out _ ((tR.drew.alloc _).alloc _) | exact HSy.out _ ((tR.alloc _).alloc _).drew | exact HSy.out _ tY | exact HSy.out _ (tY.alloc _) | exact HSy.out _ tZ)) (fun hHeld => ?_)
            clear hK K
            try simp only [List.setIfInBounds_toArray, List.set_cons_zero, List.set_cons_succ]
            refine HeadH.all (rs := [8]) (by kernel_rfl) rfl ?_
            refine HeadAll.cons rfl (by kernel_rfl) (fun K hK => ?_) ?_
            · skip
              go_simp
              refine hK.out _ _ (by (first | exact HSy.out _ tR.drew | exact HSy.out _ (tR.drew.alloc _) | exact HSy.out _ (tR.alloc _).drew | exact HSy.out _ ((tR.drew.alloc _).alloc _) | exact HSy.out _ ((tR.alloc _).alloc _).drew | exact HSy.out _ tY | exact HSy.out _ (tY.alloc _) | exact HSy.out _ tZ)) (fun hHeld => ?_)
              clear hK K
              try simp only [List.setIfInBounds_toArray, List.set_cons_zero, List.set_cons_succ]
              refine HeadH.all (rs := [9]) (by kernel_rfl) rfl ?_
              refine HeadAll.cons rfl (by kernel_rfl) (fun K hK => ?_) ?_
              · skip
                go_simp
                go_at_call 82
                refine (HPI.out _ _ (by first | exact bD (bA (Below.refl _ _) _) | exact bD (bA (bA (Below.refl _ _) _) _) | exact bA (bD (Below.refl _ _)) _ | exact bA (bA (bD (Below.refl _ _)) _) _) (by first | exact heap_alloc_new W2 _ | exact heap_alloc2_old W2 _ _ | exact heap_alloc2_new W2 _ _) (by first | exact Nat.le_refl _ | exact Nat.le_succ _)).mono ?_
                rintro e WA ⟨g1, cp1, rfl, hown1, hsn1, tA0, hkA⟩
                have tA : Touch (blFoot b) W2 WA := tA0.mono (fun _ _ h => .inr (.inl h))
                have hcA := block_touch HCL.out tA0 (fun h => ne_kind (kind_cell HCL.out) (kind_row HBM.out.ids h) (by decide) rfl)
                have a0 : WA.cell? ⟨b.ad, 0, none⟩ = some b.vi := cell_of_row _ _ 0 _ _ _ hcA
                have a1 : WA.cell? ⟨b.ad, 1, none⟩ = some b.vs := cell_of_row _ _ 1 _ _ _ hcA
                have aa1 : ∀ o, (WA.alloc o).cell? ⟨b.ad, 1, none⟩ = some b.vs := fun o => (by rw [World.cell?_of_block (Below.heap_alloc _ _ _ (Nat.lt_of_lt_of_le hadl tA0.size))]; exact a1)
                have tY : Touch (fun y => b.vi.ownBlock = some y ∨ b.vs.ownBlock = some y) W2 WA := tA0.mono (fun _ _ h => .inl h)
                try go_wp2_with fail
                refine hK.out _ _ (by (first | exact HSy.out _ tR.drew | exact HSy.out _ (tR.drew.alloc _) | exact HSy.out _ (tR.alloc _).drew | exact HSy.out _ ((tR.drew.alloc _).alloc _) | exact HSy.out _ ((tR.alloc _).alloc _).drew | exact HSy.out _ tY | exact HSy.out _ (tY.alloc _) | exact HSy.out _ tZ)) (fun hHeld => ?_)
                clear hK K
                try simp only [List.setIfInBounds_toArray, List.set_cons_zero, List.set_cons_succ]
                refine HeadH.all (rs := [17]) (by kernel_rfl) rfl ?_
                refine HeadAll.cons rfl (by kernel_rfl) (fun K hK => ?_) ?_
                · skip
                  go_simp
                  go_at_call 83
                  refine (HPB.out _ _ (by first | exact tA0 | exact tA0.alloc _) (by first | exact heap_alloc_new WA _ | exact hkA _ _ (heap_alloc2_old W2 _ _) (fun h => by have := own_lt HBM.out.ids _ h; omega) | exact hkA _ _ (heap_alloc2_new W2 _ _) (fun h => by have := own_lt HBM.out.ids _ h; omega)) (by first | exact tA0.size | exact Nat.le_refl _ | exact Nat.le_succ _)).mono ?_
                  rintro e WB ⟨g2, cp2, rfl, hown2, hsn2, tB0, hkB⟩
                  have tB : Touch (blFoot b) W2 WB := tB0.mono (fun _ _ h => h.elim (fun h => .inr (.inl h)) (fun h => .inr (.inr h)))
                  have hcB := block_touch HCL.out tB0 (fun h => h.elim (fun h => ne_kind (kind_cell HCL.out) (kind_row HBM.out.ids h) (by decide) rfl) (fun h => ne_kind (kind_cell HCL.out) (kind_row HBM.out.sn h) (by decide) rfl))
                  have b0 : WB.cell? ⟨b.ad, 0, none⟩ = some b.vi := cell_of_row _ _ 0 _ _ _ hcB
                  have b1 : WB.cell? ⟨b.ad, 1, none⟩ = some b.vs := cell_of_row _ _ 1 _ _ _ hcB
                  have hkAB : ∀ (y : Nat) (o : Obj), WA.heap[y]? = some o → b.vs.ownBlock ≠ some y → WB.heap[y]? = some o := (by first | exact hkB | exact fun y o h hn => hkB y o ((Below.heap_alloc _ _ _ (Array.getElem?_eq_some_iff.1 h).1).trans h) hn)
                  have bf : ∀ i, WB.frozen? ⟨b.ad, i, none⟩ = false := fun i => (by simp [World.frozen?, hcB])
                  have tZ : Touch (fun y => b.vi.ownBlock = some y ∨ b.vs.ownBlock = some y) W2 WB := tB0
                  try go_wp2_with fail
                  refine hK.out _ _ (by (first | exact HSy.out _ tR.drew | exact HSy.out _ (tR.drew.alloc _) | exact HSy.out _ (tR.alloc _).drew | exact HSy.out _ ((tR.drew.alloc _).alloc _) | exact HSy.out _ ((tR.alloc _).alloc _).drew | exact HSy.out _ tY | exact HSy.out _ (tY.alloc _) | exact HSy.out _ tZ)) (fun hHeld => ?_)
                  clear hK K
                  try simp only [List.setIfInBounds_toArray, List.set_cons_zero, List.set_cons_succ]
                  refine HeadH.done (by kernel_rfl) ?_
                  refine' wpAny_take (i := 18) (v := _) rfl (by kernel_rfl) (by kernel_rfl) (by kernel_rfl) (fun _ _ _ h => h) (Or.inl ⟨by rfl, ?hy23⟩) ?rest23
                  case hy23 => (intro w'; go_simp; (try with_reducible rfl))
                  try simp only [Act.put, List.setIfInBounds_toArray, List.set_cons_zero, List.set_cons_succ]
                  refine' wpAny_take (i := 19) (v := _) rfl (by kernel_rfl) (by kernel_rfl) (by kernel_rfl) (fun _ _ _ h => h) (Or.inl ⟨by rfl, ?hy24⟩) ?rest24
                  case hy24 => (intro w'; go_simp; (try with_reducible rfl))
                  try simp only [Act.put, List.setIfInBounds_toArray, List.set_cons_zero, List.set_cons_succ]
                  refine wpAny_ready (rs := [20]) (by kernel_rfl) (by simp) (AllReady.cons rfl (fun K hK => ?_) AllReady.nil)
                  go_simp
                  refine hK _ _ ?_
                  clear hK K
                  try simp only [List.setIfInBounds_toArray, List.set_cons_zero, List.set_cons_succ]
                  refine' wpAny_take (i := 21) (v := _) rfl (by kernel_rfl) (by kernel_rfl) (by kernel_rfl) (fun _ _ _ h => h) (Or.inl ⟨by rfl, ?hy25⟩) ?rest25
                  case hy25 => (intro w'; go_simp; (try with_reducible rfl))
                  try simp only [Act.put, List.setIfInBounds_toArray, List.set_cons_zero, List.set_cons_succ]
                  refine' wpAny_take (i := 22) (v := _) rfl (by kernel_rfl) (by kernel_rfl) (by kernel_rfl) (fun _ _ _ h => h) (Or.inl ⟨by rfl, ?hy26⟩) ?rest26
                  case hy26 => (intro w'; go_simp; (try with_reducible rfl))
                  try simp only [Act.put, List.setIfInBounds_toArray, List.set_cons_zero, List.set_cons_succ]
                  refine wpAny_ready (rs := [23]) (by kernel_rfl) (by simp) (AllReady.cons rfl (fun K hK => ?_) AllReady.nil)
                  go_simp
                  refine hK _ _ ?_
                  clear hK K
                  try simp only [List.setIfInBounds_toArray, List.set_cons_zero, List.set_cons_succ]
                  refine wpAny_done (by kernel_rfl) ?_ _
                  go_wp2_with fail
                  go_meet
                  exact mid_of HBM.out hown1 hsn1 tA0 hkAB hown2 hsn2 tB0
                exact HeadAll.nil
              exact HeadAll.nil
            exact HeadAll.nil
          exact HeadAll.nil
        case rest =>
          obtain ⟨v1, v2, hcb, ho1, ho2, hs1, hs2, t2⟩ := hcut
          have hnl : ((namesR b.R).take k ++ x :: (namesR b.R).drop k) = namesR (putR b.R k x q) := (names_put _ _ _ _).symm
          have hsl : ((seenR b.R).take k ++ q :: (seenR b.R).drop k) = seenR (putR b.R k x q) := (seen_put _ _ _ _).symm
          have hpl : (putR b.R k x q).length = b.R.length + 1 := putR_len _ _ _ _ hk
          rw [hnl, ← hpl] at ho1
          rw [hsl, ← hpl] at ho2
          have h3 : ShIs wc sb mp vb2 (pre ++ ⟨b.ad, v1, v2, b.n, putR b.R k x q⟩ :: post) D t := HS2.out.change (b' := ⟨b.ad, v1, v2, b.n, putR b.R k x q⟩) t2 ⟨hcb, ho1, ho2⟩ rfl hs1 hs2
          have hlt3 : Maps.size D < maxLen := by rw [HT.out.size]; unfold maxLen; omega
          have h3d := h3.below (Below.refl _ wc).drew
          obtain ⟨w4, hup, hm4, hg4⟩ := h3d.map.update keyed26 Tryd.underlying120 hlt3 (ok26.val x) (objElem_mk ptV_inj (some b.ad))
          have t4 : Touch (fun y => y = mp) wc.drew w4 := (Touch.refl (fun y => y = mp) wc.drew).grown hg4 (fun y hy _ => by injection hy with hy; exact hy.symm)
          have h4 := h3d.remap t4 (own_tight hm4)
          have hxw : wc.heap[bx]? = some (.cells #[.int .i64 x.s.T, .int .i64 x.s.R, .int .i64 x.I] 26 (0, 0)) := (t2.block bx hbxl2 HNB.out).trans HXL.out
          have q0 : wc.cell? ⟨sb, 1, none⟩ = some (.map (some mp)) := cell_of_row _ _ 1 _ _ _ h3.cell
          have q1 : wc.cell? ⟨bx, 0, none⟩ = some (.int .i64 x.s.T) := cell_of_row _ _ 0 _ _ _ hxw
          have q2 : wc.cell? ⟨bx, 1, none⟩ = some (.int .i64 x.s.R) := cell_of_row _ _ 1 _ _ _ hxw
          have q3 : wc.cell? ⟨bx, 2, none⟩ = some (.int .i64 x.I) := cell_of_row _ _ 2 _ _ _ hxw
          unfold idV ptV at hup
          -- what it is
          have htd := h3.map.tidy keyed26
          have hcn := HT2.out.cnt b (by simp)
          have hal := HT2.out.all
          have hin3 : ∀ s, (if s = x then some (some b.ad) else inF (pre ++ b :: post) s) = inF (pre ++ ⟨b.ad, v1, v2, b.n + q.toNat, putR b.R k x q⟩ :: post) s := fun s => by
            rw [inF_split, inF_split]
            dsimp only
            have hrw := HT2.out.row
            rw [rowOf_app, rowOf_cons] at hrw
            by_cases hsx : s = x
            · subst hsx
              have hnp : s ∉ namesR (rowOf pre) := fun h => HNX.out (by rw [← hrw, names_app]; exact List.mem_append_left _ h)
              rw [if_pos rfl, inF_none hnp, if_pos ((mem_putR _ _ _ _ _).2 (.inl rfl))]
              rfl
            · rw [if_neg hsx]
              congr 1
              have : s ∈ namesR (putR b.R k x q) ↔ s ∈ namesR b.R := by rw [mem_putR]; simp [hsx]
              by_cases h : s ∈ namesR b.R
              · rw [if_pos h, if_pos (this.2 h)]
              · rw [if_neg h, if_neg (fun h' => h (this.1 h'))]
          have hno : (inF (pre ++ b :: post) x) = none := inF_none (by rw [HT2.out.row]; exact HNX.out)
          have hT5 : Tidy (pre ++ ⟨b.ad, v1, v2, b.n + q.toNat, putR b.R k x q⟩ :: post) (D.put (idK x) (.held (some b.ad))) (t + q.toNat) (putR R0 a x q) := by
            refine ⟨?_, nodup_put a q HT2.out.nodup HNX.out, fun c hc => ?_, ?_, ?_, ?_⟩
            · rw [rowOf_app, rowOf_cons, ← HT2.out.row, rowOf_app, rowOf_cons, ← HSUM.out]
              exact (put_mid _ _ _ _ _ _ hk).symm
            · rcases List.mem_append.1 hc with hc | hc
              · exact HT2.out.cnt c (by simp [hc])
              · rcases List.mem_cons.1 hc with rfl | hc
                · dsimp only
                  rw [cntR_put, hcn]
                  omega
                · exact HT2.out.cnt c (by simp [hc])
            · rw [cntR_put, hal]
              omega
            · rw [size_put htd, HT2.out.fm.has, hno, putR_len _ _ _ _ ha, HT2.out.size]
              rfl
            · exact (HT2.out.fm.put ok26 h3.map.isMap x (some b.ad)).congr hin3
          have HT5 := Lib.hid hT5
          have H4 := Lib.hid h4
          have T4 := Lib.hid t4
          have HT2w := Lib.hid t2
          have hct := cntR_le R0
          have hcb2 := cntR_le b.R
          have hcs1 := Lib.hid hs1
          have hcs2 := Lib.hid hs2
          have HPL := Lib.hid hpl
          have hn5 : 0 ≤ b.n ∧ b.n ≤ 100000 := by omega
          have ht5 : 0 ≤ t ∧ t ≤ 100000 := by omega
          have hHAD := Lib.hid (fun (kk : Int) (hk : -1 ≤ kk ∧ kk ≤ 1) => add_any (b := ⟨b.ad, v1, v2, b.n, putR b.R k x q⟩) h4 kk hk ht5 hn5)
          have hszw : w.heap.size ≤ W2.heap.size := Nat.le_trans (Nat.le_trans HB0.out.size HB1.out.size) HT2o.out.size
          have hsz1 : w.heap.size ≤ w1.heap.size := Nat.le_trans HB0.out.size HB1.out.size
          have hf2' : ∀ y, foot sb mp vb2 (pre ++ b :: post) y → F y ∨ w.heap.size ≤ y := fun y hy => (HF2.out y hy).elim (fun h => .inl (HFF.out y h)) (fun h => .inr (Nat.le_trans hsz1 h))
          have hf5 : ∀ y, foot sb mp vb2 (pre ++ ⟨b.ad, v1, v2, b.n + q.toNat, putR b.R k x q⟩ :: post) y → F y ∨ w.heap.size ≤ y := fun y hy => by
            rcases hy with h | h | h | ⟨c, hc, h⟩
            · exact hf2' y (.inl h)
            · exact hf2' y (.inr (.inl h))
            · exact hf2' y (.inr (.inr (.inl h)))
            · rcases List.mem_append.1 hc with hc | hc
              · exact hf2' y (.inr (.inr (.inr ⟨c, by simp [hc], h⟩)))
              · rcases List.mem_cons.1 hc with rfl | hc
                · rcases h with h | h | h
                  · exact hf2' y (.inr (.inr (.inr ⟨b, by simp, .inl h⟩)))
                  · rcases hs1 with h1 | h1
                    · exact hf2' y (.inr (.inr (.inr ⟨b, by simp, .inr (.inl (h1 ▸ h))⟩)))
                    · exact .inr (Nat.le_trans hszw (h1 y h))
                  · rcases hs2 with h1 | h1
                    · exact hf2' y (.inr (.inr (.inr ⟨b, by simp, .inr (.inr (h1 ▸ h))⟩)))
                    · exact .inr (Nat.le_trans hszw (h1 y h))
                · exact hf2' y (.inr (.inr (.inr ⟨c, by simp [hc], h⟩)))
          have hin : ∀ y, y < w.heap.size → (F y ∨ w.heap.size ≤ y) → F y := fun y hy h => h.elim id (fun h => absurd h (by omega))
          have htw4 : Touch F w w4 := by
            have e1 : Touch F w w1 := Below.touch (HB0.out.trans (HB1.out.mono HB0.out.size)) F
            have e2 : Touch F w W2 := e1.trans HT2o.out (fun y _ h => HFF.out y h)
            have e3 : Touch F w wc := e2.trans t2 (fun y hy h => hin y hy (hf2' y (.inr (.inr (.inr ⟨b, by simp, h⟩)))))
            exact e3.drew.trans t4 (fun y hy h => hin y hy (hf2' y (.inr (.inl h))))
          have hfin : ∀ (w5 w6 : World) (vb6 : Value) (Bs6 : List Bl) (D6 : DataW (Option Nat)), Touch (fun y => y = b.ad ∨ y = sb) w4 w5 → ShIs w6 sb mp vb6 Bs6 D6 (t + q.toNat) → Tidy Bs6 D6 (t + q.toNat) (putR R0 a x q) →
              Touch (foot sb mp vb2 (pre ++ ⟨b.ad, v1, v2, b.n + q.toNat, putR b.R k x q⟩ :: post)) w5 w6 → (∀ y, foot sb mp vb6 Bs6 y → foot sb mp vb2 (pre ++ ⟨b.ad, v1, v2, b.n + q.toNat, putR b.R k x q⟩ :: post) y ∨ w5.heap.size ≤ y) → Bs6.length ≤ (pre ++ b :: post).length + 1 →
              PutPost F sb R0 (a : Int) x q w (.returned (.int .i64 0)) w6 := fun w5 w6 vb6 Bs6 D6 ht5 h6 hT6 ht6 hf6 hl6 => by
            have e4 : Touch F w w5 := htw4.trans ht5 (fun y hy h => hin y hy (hf2' y (h.elim (fun h => .inr (.inr (.inr ⟨b, by simp, .inl h⟩))) (fun h => .inl h))))
            have e5 : Touch F w w6 := e4.trans ht6 (fun y hy h => hin y hy (hf5 y h))
            refine ⟨by rw [HE.out], foot sb mp vb6 Bs6, ?_, e5, fun y hy => (hf6 y hy).elim (hf5 y) (fun h => .inr (Nat.le_trans e4.size h))⟩
            have hpv : putV R0 (a : Int) x q = putR R0 a x q := by unfold putV; rw [if_pos HE.out]; rfl
            rw [hpv]
            refine ⟨mp, vb6, Bs6, D6, _, h6, hT6, fun y hy => hy, fun y hy => h6.lt hy, ?_⟩
            rw [putR_len _ _ _ _ ha]
            omega
          have HFIN := Lib.hid hfin
          have hBl5 : (pre ++ (⟨b.ad, v1, v2, b.n + q.toNat, putR b.R k x q⟩ : Bl) :: post).length ≤ 100000 := by simp at hn2 ⊢; omega
          have hln5 : (pre ++ (⟨b.ad, v1, v2, b.n + q.toNat, putR b.R k x q⟩ : Bl) :: post).length = (pre ++ b :: post).length := by simp
          have hR5 : (putR R0 a x q).length ≤ 100000 := by rw [putR_len _ _ _ _ ha]; omega
          have HLN5 := Lib.hid hln5
          clear hcb ho1 ho2 hs1 hs2 t2 hnl hsl hpl h3 hlt3 h3d hm4 hg4 t4 h4 hxw htd hcn hal hin3 hno hT5 hct hcb2 hszw hsz1 hf2' hf5 hin htw4 hfin hln5
          cases q
          · have h5 : ShIs w4 sb mp vb2 (pre ++ ⟨b.ad, v1, v2, b.n + false.toNat, putR b.R k x false⟩ :: post) (D.put (idK x) (.held (some b.ad))) (t + false.toNat) := by simpa using H4.out
            have t5 : Touch (fun y => y = b.ad ∨ y = sb) w4 w4 := Touch.refl _ _
            have hbl5 := h5.bl _ (List.mem_append_right pre (List.mem_cons_self))
            obtain ⟨A5, c5, hA5, _, _⟩ := (Rd.of_own hbl5.ids).form
            dsimp only at hA5
            subst hA5
            have d0 : w4.cell? ⟨b.ad, 0, none⟩ = some (.slice A5 (putR b.R k x false).length c5) := cell_of_row _ _ 0 _ _ _ hbl5.cell
            obtain ⟨l5, hl5⟩ : ∃ z, (putR b.R k x false).length = z := ⟨_, rfl⟩
            rw [hl5] at d0
            have H5 := Lib.hid h5
            have HL5 := Lib.hid hl5
            clear h5 hbl5 hl5
            by_cases h32 : l5 ≤ 32
            · have j1 : ¬ (32 : Int) < (l5 : Int) := by omega
              go_wp2
              go_region
              go_wp2
              go_ret
              exact HFIN.out w4 w4 vb2 _ _ t5 H5.out HT5.out (Touch.refl _ _) (fun y h => .inl h) (by rw [HLN5.out]; exact Nat.le_succ _)
            · have j1 : (32 : Int) < (l5 : Int) := by omega
              go_wp2
              go_region
              go_wp2_with fail
              refine (part_any H5.out HT5.out (show 32 < (putR b.R k x false).length by rw [HL5.out]; omega) hR5 hBl5).mono ?_
              rintro e w6 ⟨⟨v, rfl⟩, vb6, b1, b2, D6, h6, hT6, t6, f6⟩
              have HF6 := Lib.hid (HFIN.out w4 w6 vb6 _ D6 t5 h6 hT6 t6 f6 (by simp; omega))
              clear h6 hT6 t6 f6
              go_wp2
              go_ret
              exact HF6.out
          · go_wp2
            go_region
            go_wp2_with fail
            refine (hHAD 1 (by omega)).mono ?_
            rintro e w5 ⟨⟨vv, rfl⟩, h5', t5⟩
            have h5 : ShIs w5 sb mp vb2 (pre ++ ⟨b.ad, v1, v2, b.n + true.toNat, putR b.R k x true⟩ :: post) (D.put (idK x) (.held (some b.ad))) (t + true.toNat) := h5'
            have hbl5 := h5.bl _ (List.mem_append_right pre (List.mem_cons_self))
            obtain ⟨A5, c5, hA5, _, _⟩ := (Rd.of_own hbl5.ids).form
            dsimp only at hA5
            subst hA5
            have d0 : w5.cell? ⟨b.ad, 0, none⟩ = some (.slice A5 (putR b.R k x true).length c5) := cell_of_row _ _ 0 _ _ _ hbl5.cell
            obtain ⟨l5, hl5⟩ : ∃ z, (putR b.R k x true).length = z := ⟨_, rfl⟩
            rw [hl5] at d0
            have H5 := Lib.hid h5
            have HL5 := Lib.hid hl5
            clear h5 hbl5 hl5
            by_cases h32 : l5 ≤ 32
            · have j1 : ¬ (32 : Int) < (l5 : Int) := by omega
              go_wp2
              go_ret
              exact HFIN.out w5 w5 vb2 _ _ t5 H5.out HT5.out (Touch.refl _ _) (fun y h => .inl h) (by rw [HLN5.out]; exact Nat.le_succ _)
            · have j1 : (32 : Int) < (l5 : Int) := by omega
              go_wp2_with fail
              refine (part_any H5.out HT5.out (show 32 < (putR b.R k x true).length by rw [HL5.out]; omega) hR5 hBl5).mono ?_
              rintro e w6 ⟨⟨v, rfl⟩, vb6, b1, b2, D6, h6, hT6, t6, f6⟩
              have HF6 := Lib.hid (HFIN.out w5 w6 vb6 _ D6 t5 h6 hT6 t6 f6 (by simp; omega))
              clear h6 hT6 t6 f6
              go_wp2
              go_ret
              exact HF6.out
end Go.Proofs.YtphapjbfaomblaaDoor
