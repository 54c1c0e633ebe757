/- Texts of this seat, one behind the other: JI, JJ, JK, JM. -/
import Derived.Test.YtphapjbfaomblaaDoorZb15
import Derived.Test.YtphapjbfaomblaaDoorZb17
import Derived.Lib.OthersKept
/- The sheet: Text. -/
namespace Go.Proofs.YtphapjbfaomblaaDoor
open Go Go.RowKit Go.Maps Go.ChangeMaps
theorem others_touch {B b : Nat} {w w' : World} (hb : Below B w w') (h : Lib.OthersKept 5 (some b) w w') : Touch (fun k => k = b ∨ ∃ c fz, w.heap[k]? = some (.cells c 5 fz)) w w' :=
  ⟨hb.os, hb.tape, hb.output, hb.size, fun k hk hn => by
    have h1 : w.heap[k]? = some w.heap[k] := Array.getElem?_eq_getElem hk
    rw [h k _ h1 (fun e => hn (.inl (Option.some.inj e))) (fun c fz e => hn (.inr ⟨c, fz, by rw [h1, e]⟩)), h1]⟩
theorem builder_grow {B b : Nat} {bs : List Value} {w w' : World} (h : Lib.IsBuilderF 105 5 B b bs w) (hb : Below w.heap.size w w') : Lib.IsBuilderF 105 5 B b bs w' := by
  have key : ∀ p, Lib.BuilderAtF 105 5 B b p bs w → Lib.BuilderAtF 105 5 B b p bs w' := by
    rintro p ⟨hB, v, h1, h2, h3⟩
    have hlt : ∀ {k o}, w.heap[k]? = some o → w'.heap[k]? = some o := fun {k o} hk => (hb.block k (Array.getElem?_eq_some_iff.1 hk).1).trans hk
    refine ⟨hB, v, hlt h1, ⟨h2.1, ?_⟩, h3⟩
    rcases h2.2 with h4 | ⟨g', cap, cur, fz, h4, h5, h6, h7⟩
    · exact .inl h4
    · exact .inr ⟨g', cap, cur, fz, h4, h5, hlt h6, h7⟩
  exact h.imp (key _) (key _)
def pieceV (Es : List En) (x : Id) : List UInt8 := match Es.find? (fun e => decide (e.id = x)) with
  | some e => e.pc.data.toList
  | none => []
theorem pieceV_at {Es : List En} (h : Es.Pairwise (fun a b => a.id ≠ b.id)) {e : En} (he : e ∈ Es) : pieceV Es e.id = e.pc.data.toList := by
  unfold pieceV
  cases hf : Es.find? (fun a => decide (a.id = e.id)) with
  | none =>
    rw [List.find?_eq_none] at hf
    exact absurd (decide_eq_true rfl) (hf e he)
  | some a => rw [en_one h (List.mem_of_find?_eq_some hf) he (by simpa using List.find?_some hf)]
def ptx (Es : List En) (L : List Id) : List UInt8 := (L.map (pieceV Es)).flatten
theorem ptx_snoc (Es : List En) (L : List Id) (x : Id) : ptx Es (L ++ [x]) = ptx Es L ++ pieceV Es x := by simp [ptx]
theorem ptx_le (Es : List En) (L : List Id) (k : Nat) : (ptx Es (L.take k)).length ≤ (ptx Es L).length := by
  have : ptx Es L = ptx Es (L.take k) ++ ptx Es (L.drop k) := by
    unfold ptx
    rw [← List.flatten_append, ← List.map_append, List.take_append_drop]
  rw [this, List.length_append]
  omega
section
variable {w : World} {p : Loc} {Fs : Nat → Prop} {Es : List En} {on : Stamp → Int} {R : Row Id} {n m n2 : Nat} {D : DataW (Option Nat)} {Dr : DataW Hd} {hd : Stamp → Hd} {Dn : DataW HH}
def TxRel (Es : List En) (L : List Id) (w : World) (b : Nat) (v : Value) (i : Value) (wr : World) : Prop :=
  ∃ k : Nat, k ≤ L.length ∧ i = .int .i64 k ∧ Lib.IsBuilderF 105 5 b b (Lib.byteCells (ptx Es (L.take k))) wr ∧ wr.ownsRow b 26 3 v L.length (L.flatMap idC) ∧ Below b w wr
theorem builder_kind {b : Nat} {bs : List Value} {w : World} (h : Lib.IsBuilderF 105 5 b b bs w) {c : Array Value} {t : TypeId} {fr : Nat × Nat} (hk : w.heap[b]? = some (.cells c t fr)) : t = 105 := by
  rcases h with ⟨_, v, h1, _⟩ | ⟨_, v, h1, _⟩ <;> (rw [hk] at h1; cases h1; rfl)
set_option maxRecDepth 100000 in
set_option maxHeartbeats 8000000 in
theorem text_any (h : ShtIs w p Fs Es on R n m n2 D Dr hd Dn) (hl : R.length ≤ 100000) (hE : ∀ x ∈ listR R true, ∃ e ∈ Es, e.id = x) (hx : (ptx Es (listR R true)).length ≤ 1000000000) :
    Calls Tryd.prog 29 #[.pointer (some ⟨p.sh, 0, none⟩)] w fun r w' => r = .returned (.string (ofL (ptx Es (listR R true)))) ∧ Below w.heap.size w w' := by
  obtain ⟨W1, hW1⟩ : ∃ W, w.alloc (.cells #[.pointer none, .slice none 0 0] 105) = W := ⟨_, rfl⟩
  have hfr : Lib.IsBuilderF 105 5 w.heap.size w.heap.size [] W1 := by rw [← hW1]; exact Lib.IsBuilderF.of (Lib.fresh_isBuilder 105 5 w)
  have hb1 : Below w.heap.size w W1 := by rw [← hW1]; exact (Below.refl _ w).alloc (Nat.le_refl _) _
  have hs1 : W1.heap.size = w.heap.size + 1 := by rw [← hW1]; simp
  have h1 := h.below hb1
  obtain ⟨L, hL⟩ : ∃ L, listR R true = L := ⟨_, rfl⟩
  have HLIST := Lib.hid (list_at h1.shelf hl true)
  rw [hL] at HLIST hE hx ⊢
  obtain ⟨c0, c1, _, _⟩ := h1.shc
  have HS := Lib.hid (fun W (hW : Below w.heap.size w W) => h.below hW)
  have HE := Lib.hid hE
  have HX := Lib.hid hx
  have HU := Lib.hid h.uniq
  have c0w : (w.alloc (.cells #[.pointer none, .slice none 0 0] 105)).cell? ⟨p.sh, 0, none⟩ = some (.pointer (some ⟨p.rb, 0, none⟩)) := by rw [hW1]; exact c0
  have HW1 := Lib.hid hW1
  have HB1 := Lib.hid hb1
  have HFR := Lib.hid hfr
  obtain ⟨b, hbe⟩ : ∃ z, w.heap.size = z := ⟨_, rfl⟩
  rw [hbe] at HFR HB1 hs1 HS
  have HBE := Lib.hid hbe
  clear h h1 hW1 hfr hb1 hL hE hx hbe c0 c1
  go_enter Tryd.func29, Tryd.ntmps29
  go_wp2_with (go_at_call 52; rw [HW1.out, HBE.out]; refine HLIST.out.mono ?_; rintro r w2 ⟨v, rfl, hown, hb2⟩; obtain ⟨A, c, rfl, hnc, hcm⟩ := (Rd.of_own hown).form; unfold maxLen at hcm; have hst : TxRel Es L w b (.slice A L.length c) (.int .i64 0) w2 := ⟨0, Nat.zero_le _, rfl, builder_grow HFR.out hb2, own_base hown (by omega), HB1.out.trans (hb2.mono (by omega))⟩; have HST := Lib.hid hst; clear hst hown hb2)
  go_loopw [12] (fun i wr => TxRel Es L w b (.slice A L.length c) i wr) (fun i _ => L.length - (intOf i).toNat)
  case atStart => exact HST.out
  case round =>
    clear HST
    obtain ⟨k, hk, rfl, hbu, hO, hb⟩ := hrel
    obtain ⟨wo, rfl⟩ : ∃ wo : World, wo = wr := ⟨_, rfl⟩
    have hbl : b < wo.heap.size := by
      rcases hbu with ⟨_, v, h1, _⟩ | ⟨_, v, h1, _⟩ <;> exact (Array.getElem?_eq_some_iff.1 h1).1
    by_cases hlt : k < L.length
    · obtain ⟨gr, og, rfl, hBr, hcell⟩ := rd_at idC 3 (fun _ => rfl) (by decide) (Rd.of_own hO) hlt
      have htk := List.take_succ_eq_append_getElem hlt
      have htx := ptx_snoc Es (L.take k) L[k]
      have htl := ptx_le Es L (k + 1)
      rw [htk] at htl
      rw [htx] at htl
      obtain ⟨e, he, hid⟩ := HE.out L[k] (List.getElem_mem hlt)
      have hpv := pieceV_at HU.out he
      rw [← hid] at hcell htk htx htl
      rw [hpv] at htx htl
      have hxx := HX.out
      have d0 : wo.cell? ⟨gr, og + k * 3, none⟩ = some (.int .i64 e.id.s.T) := hcell 0 _ rfl
      have d1 : wo.cell? ⟨gr, og + k * 3 + 1, none⟩ = some (.int .i64 e.id.s.R) := hcell 1 _ rfl
      have d2 : wo.cell? ⟨gr, og + k * 3 + 2, none⟩ = some (.int .i64 e.id.I) := hcell 2 _ rfl
      have i1 : (0 : Int) ≤ (k : Int) := by omega
      have i2 : (k : Int) < (L.length : Int) := by omega
      have hbl2 : (Lib.byteCells (ptx Es (L.take k))).length + e.pc.size ≤ 140737488355328 := by
        rw [List.length_append] at htl
        have : (Lib.byteCells (ptx Es (L.take k))).length = (ptx Es (L.take k)).length := by simp [Lib.byteCells]
        have h2 : e.pc.data.toList.length = e.pc.size := (Lib.size_eq e.pc).symm
        omega
      obtain ⟨W5, hW5⟩ : ∃ W, wo.alloc (.cells #[.int .i64 e.id.s.T, .int .i64 e.id.s.R, .int .i64 e.id.I] 26) = W := ⟨_, rfl⟩
      have hb5 : Below wo.heap.size wo W5 := by rw [← hW5]; exact (Below.refl _ wo).alloc (Nat.le_refl _) _
      have hx5 : W5.heap[wo.heap.size]? = some (.cells #[.int .i64 e.id.s.T, .int .i64 e.id.s.R, .int .i64 e.id.I] 26 (0, 0)) := by rw [← hW5]; exact heap_alloc_new wo _
      have hbu5 : Lib.IsBuilderF 105 5 b b (Lib.byteCells (ptx Es (L.take k))) W5.drew := by rw [← hW5]; exact Lib.IsBuilderF.alloc hbu _
      have hO5 : W5.ownsRow b 26 3 (.slice (some ⟨gr, og, none⟩) L.length c) L.length (L.flatMap idC) := by rw [← hW5]; exact World.ownsRow.alloc hO _
      have hb5' : Below b w W5 := hb.trans (hb5.mono (by omega))
      have h5 := HS.out W5 hb5'
      have hsz5 : b ≤ W5.drew.heap.size := by show b ≤ W5.heap.size; have := hb5.size; omega
      obtain ⟨q, hq⟩ : ∃ q, wo.heap.size = q := ⟨_, rfl⟩
      rw [hq] at hx5
      have x0 : W5.cell? ⟨q, 0, none⟩ = some (.int .i64 e.id.s.T) := cell_of_row _ _ 0 _ _ _ hx5
      have x1 : W5.cell? ⟨q, 1, none⟩ = some (.int .i64 e.id.s.R) := cell_of_row _ _ 1 _ _ _ hx5
      have x2 : W5.cell? ⟨q, 2, none⟩ = some (.int .i64 e.id.I) := cell_of_row _ _ 2 _ _ _ hx5
      obtain ⟨_, f1, _, _⟩ := h5.shc
      obtain ⟨p0, _, _, _⟩ := h5.enc he
      have hlk := h5.look e.id
      have hlk' := (h5.below (Below.refl _ W5).drew).look e.id
      rw [elF_some HU.out he] at hlk hlk'
      simp only [Option.getD_some, ptV] at hlk hlk'
      unfold idV at hlk hlk'
      have HWW := Lib.hid (show (fun W : World => (W.cell? ⟨q, 0, none⟩ = some (.int .i64 e.id.s.T) ∧ W.cell? ⟨q, 1, none⟩ = some (.int .i64 e.id.s.R) ∧ W.cell? ⟨q, 2, none⟩ = some (.int .i64 e.id.I)) ∧ W.cell? ⟨p.sh, 1, none⟩ = some (.map (some p.ma)) ∧ W.cell? ⟨e.ad, 0, none⟩ = some (.string e.pc)) W5.drew from ⟨⟨x0, x1, x2⟩, f1, p0⟩)
      have HKP := Lib.hid (fun W (hW : Below b W5.drew W) (hK : Lib.OthersKept 5 (some b) W5.drew W) => (show (W.cell? ⟨q, 0, none⟩ = some (.int .i64 e.id.s.T) ∧ W.cell? ⟨q, 1, none⟩ = some (.int .i64 e.id.s.R) ∧ W.cell? ⟨q, 2, none⟩ = some (.int .i64 e.id.I)) ∧ W.cell? ⟨p.sh, 1, none⟩ = some (.map (some p.ma)) ∧ W.cell? ⟨e.ad, 0, none⟩ = some (.string e.pc) from by
        have hq := block_touch (w := W5.drew) hx5 (others_touch hW hK) (by
          rintro (rfl | ⟨c, fz, hc⟩)
          · have := builder_kind hbu5 hx5; cases this
          · have hc : W5.heap[q]? = some (.cells c 5 fz) := hc
            rw [hx5] at hc; cases hc)
        have hs := HS.out W ((hb5'.drew).trans hW)
        exact ⟨⟨cell_of_row _ _ 0 _ _ _ hq, cell_of_row _ _ 1 _ _ _ hq, cell_of_row _ _ 2 _ _ _ hq⟩, hs.shc.2.1, (hs.enc he).1⟩))
      have HTK := Lib.hid htk
      have HTX := Lib.hid htx
      have HO5 := Lib.hid hO5
      have HB5 := Lib.hid hb5'
      have HBU := Lib.hid hbu5
      have HW5 := Lib.hid hW5
      have HQ := Lib.hid hq
      clear htk htx htl hxx hcell hbu hO hb hb5 hx5 hbu5 hO5 hb5' h5 hW5 hid hpv he
      go_wp2
      rw [HW5.out]
      go_region_held3 (fun W => (W.cell? ⟨q, 0, none⟩ = some (.int .i64 e.id.s.T) ∧ W.cell? ⟨q, 1, none⟩ = some (.int .i64 e.id.s.R) ∧ W.cell? ⟨q, 2, none⟩ = some (.int .i64 e.id.I)) ∧ W.cell? ⟨p.sh, 1, none⟩ = some (.map (some p.ma)) ∧ W.cell? ⟨e.ad, 0, none⟩ = some (.string e.pc))
        (first | exact HWW.out | exact hS6 | go_keep)
        (first | (go_at_call 53; refine (writeString_any b b _ e.pc _ HBU.out hbl2 hsz5).mono ?_; rintro r w6 ⟨rfl, hbu6, hb6, hk6⟩; have hS6 := HKP.out w6 hb6 hk6))
      have HB6 := Lib.hid ((HB5.out.drew).trans hb6)
      have HBU6 := Lib.hid (show Lib.IsBuilderF 105 5 b b (Lib.byteCells (ptx Es (L.take (k + 1)))) w6 by rw [HTK.out, HTX.out, byteCells_append]; exact .inr hbu6)
      have HO6 := Lib.hid (own_kind (own_drew' HO5.out) (others_touch hb6 hk6) (by
        rintro k cur fr (rfl | ⟨c, fz, hc⟩) h
        · have := builder_kind HBU.out h; cases this
        · rw [hc] at h; cases h))
      clear hbu6 hb6 hk6
      go_wp2
      go_roundw
      case rel => exact ⟨k + 1, by omega, by go_num, HBU6.out, HO6.out, HB6.out⟩
      case measure => simp [intOf]; omega
    · obtain rfl : k = L.length := by omega
      rw [List.take_length] at hbu
      have HST := Lib.hid (Tryd.Builder_String_any_k b b (ptx Es L) wo hbu (by omega))
      have HBe := Lib.hid hb
      clear hbu hO hb hk
      go_wp2_with fail
      refine HST.out.mono ?_
      rintro r w6 ⟨rfl, _, hb6, _⟩
      have HB6 := Lib.hid (HBe.out.trans hb6)
      clear hb6
      go_wp2
      go_ret
      rw [HBE.out]
      exact ⟨rfl, HB6.out⟩
end
end Go.Proofs.YtphapjbfaomblaaDoor
/- The sheet: Behind, check. -/
namespace Go.Proofs.YtphapjbfaomblaaDoor
open Go Go.RowKit Go.Maps Go.ChangeMaps
def behV (R : Row Id) (k : Int) : Id × Int := if k < 0 ∨ (cntR R : Int) < k then (zeroI, 100) else if k = 0 then (zeroI, 0) else findV R (k - 1)
section
variable {w : World} {p : Loc} {Fs : Nat → Prop} {Es : List En} {on : Stamp → Int} {R : Row Id} {n m n2 : Nat} {D : DataW (Option Nat)} {Dr : DataW Hd} {hd : Stamp → Hd} {Dn : DataW HH}
set_option maxRecDepth 100000 in
set_option maxHeartbeats 4000000 in
theorem shBehind_any (h : ShtIs w p Fs Es on R n m n2 D Dr hd Dn) (hl : R.length ≤ 100000) (k : Int) (hk : k ≤ 1000000) : Calls Tryd.prog 35 #[.pointer (some ⟨p.sh, 0, none⟩), .int .i64 k] w fun r w' => r = .returned (.tuple #[idV (behV R k).1, .int .i64 (behV R k).2]) ∧ Below w.heap.size w w' := by
  obtain ⟨W0, hW0⟩ : ∃ W, w.alloc (.cells #[.int .i64 0, .int .i64 0, .int .i64 0] 26) = W := ⟨_, rfl⟩
  have hb0 : Below w.heap.size w W0 := by rw [← hW0]; exact (Below.refl _ w).alloc (Nat.le_refl _) _
  have hx0 : W0.heap[w.heap.size]? = some (.cells #[.int .i64 0, .int .i64 0, .int .i64 0] 26 (0, 0)) := by rw [← hW0]; exact heap_alloc_new w _
  have h0 := h.below hb0
  have hcl := cntR_le R
  have HLEN := Lib.hid (fun W (hW : Below W0.heap.size W0 W) => len_any (h0.below hW))
  have HAT := Lib.hid (fun W (hW : Below W0.heap.size W0 W) => shAt_any (h0.below hW) hl (k - 1))
  have hsz : w.heap.size < W0.heap.size := (Array.getElem?_eq_some_iff.1 hx0).1
  have HX0 := Lib.hid (fun W (hW : Below W0.heap.size W0 W) => (hW.block w.heap.size hsz).trans hx0)
  obtain ⟨q, hq⟩ : ∃ q, w.heap.size = q := ⟨_, rfl⟩
  rw [hq] at HX0 hx0
  have x0 : W0.cell? ⟨q, 0, none⟩ = some (.int .i64 0) := cell_of_row _ _ 0 _ _ _ hx0
  have x1 : W0.cell? ⟨q, 1, none⟩ = some (.int .i64 0) := cell_of_row _ _ 1 _ _ _ hx0
  have x2 : W0.cell? ⟨q, 2, none⟩ = some (.int .i64 0) := cell_of_row _ _ 2 _ _ _ hx0
  have xf : ∀ i, W0.frozen? ⟨q, i, none⟩ = false := fun i => by simp [World.frozen?, hx0]
  have HW0 := Lib.hid hW0
  have HB0 := Lib.hid hb0
  have HQ := Lib.hid hq
  have hbv : behV R k = if k < 0 ∨ (cntR R : Int) < k then (zeroI, 100) else if k = 0 then (zeroI, 0) else findV R (k - 1) := rfl
  obtain ⟨c, hc⟩ : ∃ c, cntR R = c := ⟨_, rfl⟩
  rw [hc] at hbv HLEN hcl
  have HBV := Lib.hid hbv
  clear h h0 hW0 hb0 hx0 hbv hc hsz hq
  by_cases h1 : k < 0
  · go_enter Tryd.func35, Tryd.ntmps35
    go_wp2
    refine bodyPost_ret (results_cell_row1 rfl _ _ w.heap.size 26 #[.int .i64 0, .int .i64 0, .int .i64 0] (0, 0) _ rfl (heap_alloc_new w _) Tryd.underlying26 rfl (by kernel_rfl)) rfl ?_
    rw [HBV.out, if_pos (.inl h1)]
    exact ⟨rfl, (Below.refl _ w).alloc (Nat.le_refl _) _⟩
  · by_cases h2 : (c : Int) < k
    · go_enter Tryd.func35, Tryd.ntmps35
      go_wp2_with (go_at_call 31; rw [HW0.out, HQ.out]; refine (HLEN.out W0 (Below.refl _ W0)).mono ?_; rintro r w1 ⟨rfl, rfl⟩)
      refine bodyPost_ret (results_cell_row1 rfl _ _ q 26 #[.int .i64 0, .int .i64 0, .int .i64 0] (0, 0) _ rfl (set3_heapS (HX0.out w1 (Below.refl _ w1))) Tryd.underlying26 rfl (by kernel_rfl)) rfl ?_
      rw [HBV.out, if_pos (.inr h2)]
      exact ⟨rfl, (((HB0.out.trans ((Below.refl _ w1).mono HB0.out.size)).setCell (p := ⟨q, 0, none⟩) (by rw [HQ.out]; exact Nat.le_refl _) _).setCell (p := ⟨q, 1, none⟩) (by rw [HQ.out]; exact Nat.le_refl _) _).setCell (p := ⟨q, 2, none⟩) (by rw [HQ.out]; exact Nat.le_refl _) _⟩
    · have hcd : decide ((c : Int) < k) = false := decide_eq_false h2
      by_cases h3 : k = 0
      · subst h3
        go_enter Tryd.func35, Tryd.ntmps35
        go_wp2_with (go_at_call 31; rw [HW0.out, HQ.out]; refine (HLEN.out W0 (Below.refl _ W0)).mono ?_; rintro r w1 ⟨rfl, rfl⟩)
        refine bodyPost_ret (results_cell_row1 rfl _ _ q 26 #[.int .i64 0, .int .i64 0, .int .i64 0] (0, 0) _ rfl (set3_heapS (HX0.out w1 (Below.refl _ w1))) Tryd.underlying26 rfl (by kernel_rfl)) rfl ?_
        rw [HBV.out, if_neg (show ¬ ((0 : Int) < 0 ∨ (c : Int) < 0) by omega)]
        exact ⟨rfl, (((HB0.out.trans ((Below.refl _ w1).mono HB0.out.size)).setCell (p := ⟨q, 0, none⟩) (by rw [HQ.out]; exact Nat.le_refl _) _).setCell (p := ⟨q, 1, none⟩) (by rw [HQ.out]; exact Nat.le_refl _) _).setCell (p := ⟨q, 2, none⟩) (by rw [HQ.out]; exact Nat.le_refl _) _⟩
      · have hw : IntKind.i64.wrap (k - 1) = k - 1 := IntWalk.i64_in _ (by omega)
        obtain ⟨y, f, hv⟩ : ∃ y f, findV R (k - 1) = (y, f) := ⟨_, _, rfl⟩
        rw [hv] at HAT HBV
        dsimp only at HAT
        unfold idV at HAT
        clear hv
        go_enter Tryd.func35, Tryd.ntmps35
        go_wp2_with (first | (go_at_call 31; rw [HW0.out, HQ.out]; refine (HLEN.out W0 (Below.refl _ W0)).mono ?_; rintro r w1 ⟨rfl, rfl⟩) | (go_at_call 34; refine (HAT.out _ (Below.refl _ _)).mono ?_; rintro r w2 ⟨rfl, hb2⟩; have hh := HX0.out w2 hb2; have y0 : w2.cell? ⟨q, 0, none⟩ = some (.int .i64 0) := cell_of_row _ _ 0 _ _ _ hh; have y1 : w2.cell? ⟨q, 1, none⟩ = some (.int .i64 0) := cell_of_row _ _ 1 _ _ _ hh; have y2 : w2.cell? ⟨q, 2, none⟩ = some (.int .i64 0) := cell_of_row _ _ 2 _ _ _ hh; have yf : ∀ i, w2.frozen? ⟨q, i, none⟩ = false := (fun i => by simp [World.frozen?, hh]); have HB2 := Lib.hid hb2; clear hh hb2))
        refine bodyPost_ret (results_cell_row1 rfl _ _ q 26 #[.int .i64 y.s.T, .int .i64 y.s.R, .int .i64 y.I] (0, 0) _ rfl (set3_heapS (HX0.out w2 (HB2.out))) Tryd.underlying26 rfl (by kernel_rfl)) rfl ?_
        rw [HBV.out, if_neg (show ¬ (k < 0 ∨ (c : Int) < k) by omega), if_neg h3]
        exact ⟨rfl, (((HB0.out.trans ((HB2.out).mono HB0.out.size)).setCell (p := ⟨q, 0, none⟩) (by rw [HQ.out]; exact Nat.le_refl _) _).setCell (p := ⟨q, 1, none⟩) (by rw [HQ.out]; exact Nat.le_refl _) _).setCell (p := ⟨q, 2, none⟩) (by rw [HQ.out]; exact Nat.le_refl _) _⟩
end
end Go.Proofs.YtphapjbfaomblaaDoor
/- The sheet: check. -/
namespace Go.Proofs.YtphapjbfaomblaaDoor
open Go Go.RowKit Go.Maps Go.ChangeMaps
def rnU (r : Rn) : Value := .agg #[.int .i64 r.af.s.T, .int .i64 r.af.s.R, .int .i64 r.af.I, .int .i64 r.el.s.T, .int .i64 r.el.s.R, .int .i64 r.el.I, .string r.tx]
def idB (x : Id) : Obj := .cells #[.int .i64 x.s.T, .int .i64 x.s.R, .int .i64 x.I] 26 (0, 0)
theorem idB_set {w : World} {b : Nat} {x : Id} (h : w.heap[b]? = some (idB x)) : (w.setCell ⟨b, 2, none⟩ (.int .i64 (nextI x).I)).heap[b]? = some (idB (nextI x)) := by
  unfold idB at h ⊢
  simp [World.setCell, Array.getElem?_modify, h]
  exact ⟨rfl, rfl⟩
def ChRel (el : Id) (n bX : Nat) (W3 : World) (i : Value) (wr : World) : Prop :=
  ∃ k : Nat, k ≤ n ∧ i = .int .i64 k ∧ wr.heap[bX]? = some (idB (nthI el k)) ∧ Touch (fun j => j = bX) W3 wr
section
variable {w : World} {p : Loc} {Fs : Nat → Prop} {Es : List En} {on : Stamp → Int} {R : Row Id} {n m n2 : Nat} {D : DataW (Option Nat)} {Dr : DataW Hd} {hd : Stamp → Hd} {Dn : DataW HH}
set_option maxRecDepth 100000 in
set_option maxHeartbeats 8000000 in
theorem check_good (h : ShtIs w p Fs Es on R n m n2 D Dr hd Dn) (r : Rn) (ps : List (List UInt8)) (hps : AllP ps) (htx : r.tx = ofL ps.flatten) (hpl : 0 < ps.length ∧ ps.length ≤ 100000) (hfl : ps.flatten.length ≤ 1000000000) (hT : Tabs w)
    (hnz : ∀ e ∈ Es, e.id ≠ zeroI) (haf : r.af = zeroI ∨ ∃ e ∈ Es, e.id = r.af) (hg : ∀ j, j < ps.length → nthI r.el j ≠ zeroI ∧ ∀ e ∈ Es, e.id ≠ nthI r.el j) :
    Calls Tryd.prog 47 #[.pointer (some ⟨p.sh, 0, none⟩), rnU r] w fun e w' => ∃ v, e = .returned (.tuple #[v, .int .i64 0]) ∧ w'.ownsRow w.heap.size 9 1 v ps.length (ps.map str) ∧ Below w.heap.size w w' := by
  obtain ⟨af, el, tx⟩ := r
  dsimp only at htx haf hg
  subst htx
  obtain ⟨W0, hW0⟩ : ∃ W, w.alloc (.cells #[.int .i64 af.s.T, .int .i64 af.s.R, .int .i64 af.I, .int .i64 el.s.T, .int .i64 el.s.R, .int .i64 el.I, .string (ofL ps.flatten)] 28) = W := ⟨_, rfl⟩
  have hb0 : Below w.heap.size w W0 := by rw [← hW0]; exact (Below.refl _ w).alloc (Nat.le_refl _) _
  have hx0 : W0.heap[w.heap.size]? = some (.cells #[.int .i64 af.s.T, .int .i64 af.s.R, .int .i64 af.I, .int .i64 el.s.T, .int .i64 el.s.R, .int .i64 el.I, .string (ofL ps.flatten)] 28 (0, 0)) := by rw [← hW0]; exact heap_alloc_new w _
  have h0 := h.below hb0
  have hT0 := hT.below hb0
  have HSP := Lib.hid (split_valid ps hps W0 hfl hT0)
  have hsz : w.heap.size < W0.heap.size := (Array.getElem?_eq_some_iff.1 hx0).1
  have HX0 := Lib.hid (fun W (hW : Below W0.heap.size W0 W) => (hW.block w.heap.size hsz).trans hx0)
  have HS := Lib.hid (fun W (hW : Below w.heap.size w W) => h.below hW)
  have HU := Lib.hid h.uniq
  have HG := Lib.hid hg
  obtain ⟨np, hnp⟩ : ∃ z, ps.length = z := ⟨_, rfl⟩
  rw [hnp] at hpl HG HSP ⊢
  have HNP := Lib.hid hnp
  obtain ⟨hn0, hn1⟩ := hpl
  have HW0 := Lib.hid hW0
  have HB0 := Lib.hid hb0
  have hE := eq3_iff af zeroI
  have hq := eql26
  have hq2 := neq26
  have hgd := gd26
  clear h h0 hT hT0 hW0 hb0 hx0 hg hnp
  unfold rnU
  rcases haf with haf | ⟨ea, hea, haf⟩
  · have hE2 : eq3 af.s.T af.s.R af.I 0 0 0 = true := by
      rw [decide_eq_true haf] at hE
      exact hE
    clear haf
    go_enter Tryd.func47, Tryd.ntmps47
    go_wp2_with (go_at_call 65; rw [HW0.out]; refine HSP.out.mono ?_; rintro r w1 ⟨v, rfl, hown, hb1⟩; obtain ⟨A, c, rfl, hnc, hcm⟩ := (Rd.of_own hown).form; unfold maxLen at hcm; have hh := HX0.out w1 hb1; have HB1 := Lib.hid (HB0.out.trans (hb1.mono HB0.out.size)); have HOWN := Lib.hid (own_base hown HB0.out.size); have hs1 := HS.out w1 HB1.out; have x0 : w1.cell? ⟨w.heap.size, 0, none⟩ = some (.int .i64 af.s.T) := cell_of_row _ _ 0 _ _ _ hh; have x1 : w1.cell? ⟨w.heap.size, 1, none⟩ = some (.int .i64 af.s.R) := cell_of_row _ _ 1 _ _ _ hh; have x2 : w1.cell? ⟨w.heap.size, 2, none⟩ = some (.int .i64 af.I) := cell_of_row _ _ 2 _ _ _ hh; have x3 : w1.cell? ⟨w.heap.size, 3, none⟩ = some (.int .i64 el.s.T) := cell_of_row _ _ 3 _ _ _ hh; have x4 : w1.cell? ⟨w.heap.size, 4, none⟩ = some (.int .i64 el.s.R) := cell_of_row _ _ 4 _ _ _ hh; have x5 : w1.cell? ⟨w.heap.size, 5, none⟩ = some (.int .i64 el.I) := cell_of_row _ _ 5 _ _ _ hh; have c1 := hs1.shc.2.1; clear hown hb1 hh hs1)
    go_region
    obtain ⟨W3, hW3⟩ : ∃ W, (w1.alloc (.cells #[.int .i64 el.s.T, .int .i64 el.s.R, .int .i64 el.I] 26)).drew = W := ⟨_, rfl⟩
    obtain ⟨bX, hbX⟩ : ∃ z, w1.heap.size = z := ⟨_, rfl⟩
    have hst : ChRel el np bX W3 (.int .i64 0) W3 := ⟨0, Nat.zero_le _, rfl, by rw [← hW3, ← hbX]; exact heap_alloc_new w1 _, Touch.refl _ _⟩
    have hb3 : Below w.heap.size w W3 := by rw [← hW3]; exact (HB1.out.alloc HB1.out.size _).drew
    have HO3 := Lib.hid (show W3.ownsRow w.heap.size 9 1 (.slice A np c) np (ps.map str) by rw [← hW3]; exact own_drew' (World.ownsRow.alloc HOWN.out _))
    have HLO := Lib.hid (show w.heap.size ≤ bX ∧ w1.heap[bX]? = none by rw [← hbX]; exact ⟨HB1.out.size, Array.getElem?_eq_none (Nat.le_refl _)⟩)
    have HST := Lib.hid hst
    have HB3 := Lib.hid hb3
    have HW3 := Lib.hid hW3
    clear hst hb3 hW3 x0 x1 x2 hE HOWN HB1 c1
    go_wp2
    rw [HW3.out]
    go_loopw [40] (fun i wr => ChRel el np bX W3 i wr) (fun i _ => np - (intOf i).toNat)
    case atStart => exact HST.out
    case round =>
      obtain ⟨k, hk, rfl, hx, ht⟩ := hrel
      obtain ⟨wo, rfl⟩ : ∃ wo : World, wo = wr := ⟨_, rfl⟩
      have hbo : Below w.heap.size w wo := HB3.out.trans (ht.below HB3.out.size (fun j hj e => by have := HLO.out.1; omega))
      by_cases hlt : k < np
      · obtain ⟨x, hxe⟩ : ∃ x, nthI el k = x := ⟨_, rfl⟩
        obtain ⟨hz, hno⟩ := HG.out k hlt
        rw [hxe] at hz hno hx
        have hnx : nthI el (k + 1) = nextI x := by rw [← hxe]; rfl
        have hx' : wo.heap[bX]? = some (.cells #[.int .i64 x.s.T, .int .i64 x.s.R, .int .i64 x.I] 26 (0, 0)) := hx
        have d0 : wo.cell? ⟨bX, 0, none⟩ = some (.int .i64 x.s.T) := cell_of_row _ _ 0 _ _ _ hx'
        have d1 : wo.cell? ⟨bX, 1, none⟩ = some (.int .i64 x.s.R) := cell_of_row _ _ 1 _ _ _ hx'
        have d2 : wo.cell? ⟨bX, 2, none⟩ = some (.int .i64 x.I) := cell_of_row _ _ 2 _ _ _ hx'
        have df : ∀ i, wo.frozen? ⟨bX, i, none⟩ = false := fun i => by simp [World.frozen?, hx']
        have hs := HS.out wo hbo
        have c1 := hs.shc.2.1
        have hl1 := hs.look x
        have hl2 := (hs.below (Below.refl _ wo).drew).look x
        rw [elF_none hno] at hl1 hl2
        simp only [Option.getD_none, ptV] at hl1 hl2
        unfold idV at hl1 hl2
        have hE := eq3_iff x zeroI
        rw [decide_eq_false hz] at hE
        have hE2 : eq3 x.s.T x.s.R x.I 0 0 0 = false := hE
        have hw := wrap_next x
        obtain ⟨ni, hni⟩ : ∃ z, (nextI x).I = z := ⟨_, rfl⟩
        rw [hni] at hw
        have HREL := Lib.hid (show ChRel el np bX W3 (.int .i64 ((k + 1 : Nat) : Int)) (wo.drew.setCell ⟨bX, 2, none⟩ (.int .i64 ni)) from ⟨k + 1, hlt, rfl, by rw [hnx, ← hni]; exact idB_set (w := wo.drew) hx, (ht.drew).setCell (fun _ => rfl) _⟩)
        have HLT := Lib.hid hlt
        have i2 : (k : Int) < (np : Int) := by omega
        clear hx hx' ht hbo hz hno hnx hs hE hni hxe HST
        go_wp2
        go_region
        go_wp2
        go_roundw
        case rel => exact HREL.out
        case measure => have := HLT.out; simp [intOf]; omega
      · obtain rfl : k = np := by omega
        have HBO := Lib.hid hbo
        have HOF := Lib.hid (show wo.ownsRow w.heap.size 9 1 (.slice A k c) k (ps.map str) from own_kind HO3.out ht (fun j cur fr hj he => by
          subst hj
          obtain ⟨k0, _, _, h3, _⟩ := HST.out
          unfold idB at h3
          rw [he] at h3
          cases h3))
        clear hbo ht hx HST
        go_wp2
        go_ret2
        exact ⟨_, rfl, HOF.out, HBO.out⟩
  · have hE2 : eq3 af.s.T af.s.R af.I 0 0 0 = false := by
      have h9 := decide_eq_false (show af ≠ zeroI from haf ▸ hnz ea hea)
      rw [h9] at hE
      exact hE
    go_enter Tryd.func47, Tryd.ntmps47
    go_wp2_with (go_at_call 65; rw [HW0.out]; refine HSP.out.mono ?_; rintro r w1 ⟨v, rfl, hown, hb1⟩; obtain ⟨A, c, rfl, hnc, hcm⟩ := (Rd.of_own hown).form; unfold maxLen at hcm; have hh := HX0.out w1 hb1; have HB1 := Lib.hid (HB0.out.trans (hb1.mono HB0.out.size)); have HOWN := Lib.hid (own_base hown HB0.out.size); have hs1 := HS.out w1 HB1.out; have x0 : w1.cell? ⟨w.heap.size, 0, none⟩ = some (.int .i64 af.s.T) := cell_of_row _ _ 0 _ _ _ hh; have x1 : w1.cell? ⟨w.heap.size, 1, none⟩ = some (.int .i64 af.s.R) := cell_of_row _ _ 1 _ _ _ hh; have x2 : w1.cell? ⟨w.heap.size, 2, none⟩ = some (.int .i64 af.I) := cell_of_row _ _ 2 _ _ _ hh; have x3 : w1.cell? ⟨w.heap.size, 3, none⟩ = some (.int .i64 el.s.T) := cell_of_row _ _ 3 _ _ _ hh; have x4 : w1.cell? ⟨w.heap.size, 4, none⟩ = some (.int .i64 el.s.R) := cell_of_row _ _ 4 _ _ _ hh; have x5 : w1.cell? ⟨w.heap.size, 5, none⟩ = some (.int .i64 el.I) := cell_of_row _ _ 5 _ _ _ hh; have c1 := hs1.shc.2.1; have hl1 := hs1.look af; have hl2 := (hs1.below (Below.refl _ w1).drew).look af; rw [← haf, elF_some HU.out hea, haf] at hl1 hl2; simp only [Option.getD_some, ptV] at hl1 hl2; unfold idV at hl1 hl2; clear hown hb1 hh hs1)
    go_region
    obtain ⟨W3, hW3⟩ : ∃ W, (w1.alloc (.cells #[.int .i64 el.s.T, .int .i64 el.s.R, .int .i64 el.I] 26)).drew = W := ⟨_, rfl⟩
    obtain ⟨bX, hbX⟩ : ∃ z, w1.heap.size = z := ⟨_, rfl⟩
    have hst : ChRel el np bX W3 (.int .i64 0) W3 := ⟨0, Nat.zero_le _, rfl, by rw [← hW3, ← hbX]; exact heap_alloc_new w1 _, Touch.refl _ _⟩
    have hb3 : Below w.heap.size w W3 := by rw [← hW3]; exact (HB1.out.alloc HB1.out.size _).drew
    have HO3 := Lib.hid (show W3.ownsRow w.heap.size 9 1 (.slice A np c) np (ps.map str) by rw [← hW3]; exact own_drew' (World.ownsRow.alloc HOWN.out _))
    have HLO := Lib.hid (show w.heap.size ≤ bX ∧ w1.heap[bX]? = none by rw [← hbX]; exact ⟨HB1.out.size, Array.getElem?_eq_none (Nat.le_refl _)⟩)
    have HST := Lib.hid hst
    have HB3 := Lib.hid hb3
    have HW3 := Lib.hid hW3
    clear hst hb3 hW3 hl1 hl2 x0 x1 x2 hE HOWN HB1 c1
    go_wp2
    rw [HW3.out]
    go_loopw [40] (fun i wr => ChRel el np bX W3 i wr) (fun i _ => np - (intOf i).toNat)
    case atStart => exact HST.out
    case round =>
      obtain ⟨k, hk, rfl, hx, ht⟩ := hrel
      obtain ⟨wo, rfl⟩ : ∃ wo : World, wo = wr := ⟨_, rfl⟩
      have hbo : Below w.heap.size w wo := HB3.out.trans (ht.below HB3.out.size (fun j hj e => by have := HLO.out.1; omega))
      by_cases hlt : k < np
      · obtain ⟨x, hxe⟩ : ∃ x, nthI el k = x := ⟨_, rfl⟩
        obtain ⟨hz, hno⟩ := HG.out k hlt
        rw [hxe] at hz hno hx
        have hnx : nthI el (k + 1) = nextI x := by rw [← hxe]; rfl
        have hx' : wo.heap[bX]? = some (.cells #[.int .i64 x.s.T, .int .i64 x.s.R, .int .i64 x.I] 26 (0, 0)) := hx
        have d0 : wo.cell? ⟨bX, 0, none⟩ = some (.int .i64 x.s.T) := cell_of_row _ _ 0 _ _ _ hx'
        have d1 : wo.cell? ⟨bX, 1, none⟩ = some (.int .i64 x.s.R) := cell_of_row _ _ 1 _ _ _ hx'
        have d2 : wo.cell? ⟨bX, 2, none⟩ = some (.int .i64 x.I) := cell_of_row _ _ 2 _ _ _ hx'
        have df : ∀ i, wo.frozen? ⟨bX, i, none⟩ = false := fun i => by simp [World.frozen?, hx']
        have hs := HS.out wo hbo
        have c1 := hs.shc.2.1
        have hl1 := hs.look x
        have hl2 := (hs.below (Below.refl _ wo).drew).look x
        rw [elF_none hno] at hl1 hl2
        simp only [Option.getD_none, ptV] at hl1 hl2
        unfold idV at hl1 hl2
        have hE := eq3_iff x zeroI
        rw [decide_eq_false hz] at hE
        have hE2 : eq3 x.s.T x.s.R x.I 0 0 0 = false := hE
        have hw := wrap_next x
        obtain ⟨ni, hni⟩ : ∃ z, (nextI x).I = z := ⟨_, rfl⟩
        rw [hni] at hw
        have HREL := Lib.hid (show ChRel el np bX W3 (.int .i64 ((k + 1 : Nat) : Int)) (wo.drew.setCell ⟨bX, 2, none⟩ (.int .i64 ni)) from ⟨k + 1, hlt, rfl, by rw [hnx, ← hni]; exact idB_set (w := wo.drew) hx, (ht.drew).setCell (fun _ => rfl) _⟩)
        have HLT := Lib.hid hlt
        have i2 : (k : Int) < (np : Int) := by omega
        clear hx hx' ht hbo hz hno hnx hs hE hni hxe HST
        go_wp2
        go_region
        go_wp2
        go_roundw
        case rel => exact HREL.out
        case measure => have := HLT.out; simp [intOf]; omega
      · obtain rfl : k = np := by omega
        have HBO := Lib.hid hbo
        have HOF := Lib.hid (show wo.ownsRow w.heap.size 9 1 (.slice A k c) k (ps.map str) from own_kind HO3.out ht (fun j cur fr hj he => by
          subst hj
          obtain ⟨k0, _, _, h3, _⟩ := HST.out
          unfold idB at h3
          rw [he] at h3
          cases h3))
        clear hbo ht hx HST
        go_wp2
        go_ret2
        exact ⟨_, rfl, HOF.out, HBO.out⟩
set_option maxRecDepth 100000 in
set_option maxHeartbeats 8000000 in
theorem check_twice (h : ShtIs w p Fs Es on R n m n2 D Dr hd Dn) (r : Rn) (ps : List (List UInt8)) (hps : AllP ps) (htx : r.tx = ofL ps.flatten) (hpl : 0 < ps.length ∧ ps.length ≤ 100000) (hfl : ps.flatten.length ≤ 1000000000) (hT : Tabs w)
    (hnz : ∀ e ∈ Es, e.id ≠ zeroI) (haf : r.af = zeroI) (hg : ∃ e ∈ Es, e.id = r.el) :
    Calls Tryd.prog 47 #[.pointer (some ⟨p.sh, 0, none⟩), rnU r] w fun e w' => ∃ v, e = .returned (.tuple #[v, .int .i64 110]) ∧ Below w.heap.size w w' := by
  obtain ⟨af, el, tx⟩ := r
  dsimp only at htx haf hg
  subst htx
  obtain ⟨W0, hW0⟩ : ∃ W, w.alloc (.cells #[.int .i64 af.s.T, .int .i64 af.s.R, .int .i64 af.I, .int .i64 el.s.T, .int .i64 el.s.R, .int .i64 el.I, .string (ofL ps.flatten)] 28) = W := ⟨_, rfl⟩
  have hb0 : Below w.heap.size w W0 := by rw [← hW0]; exact (Below.refl _ w).alloc (Nat.le_refl _) _
  have hx0 : W0.heap[w.heap.size]? = some (.cells #[.int .i64 af.s.T, .int .i64 af.s.R, .int .i64 af.I, .int .i64 el.s.T, .int .i64 el.s.R, .int .i64 el.I, .string (ofL ps.flatten)] 28 (0, 0)) := by rw [← hW0]; exact heap_alloc_new w _
  have h0 := h.below hb0
  have hT0 := hT.below hb0
  have HSP := Lib.hid (split_valid ps hps W0 hfl hT0)
  have hsz : w.heap.size < W0.heap.size := (Array.getElem?_eq_some_iff.1 hx0).1
  have HX0 := Lib.hid (fun W (hW : Below W0.heap.size W0 W) => (hW.block w.heap.size hsz).trans hx0)
  have HS := Lib.hid (fun W (hW : Below w.heap.size w W) => h.below hW)
  have hu := h.uniq
  obtain ⟨ee, hee, heq⟩ := hg
  obtain ⟨np, hnp⟩ : ∃ z, ps.length = z := ⟨_, rfl⟩
  rw [hnp] at hpl HSP
  obtain ⟨hn0, _⟩ := hpl
  have HW0 := Lib.hid hW0
  have HB0 := Lib.hid hb0
  have hE := eq3_iff af zeroI
  have hq := eql26
  have hq2 := neq26
  have hgd := gd26
  clear h h0 hT hT0 hW0 hb0 hx0 hnp
  unfold rnU
  have hE2 : eq3 af.s.T af.s.R af.I 0 0 0 = true := by
    rw [decide_eq_true haf] at hE
    exact hE
  clear haf
  go_enter Tryd.func47, Tryd.ntmps47
  go_wp2_with (go_at_call 65; rw [HW0.out]; refine HSP.out.mono ?_; rintro r w1 ⟨v, rfl, hown, hb1⟩; obtain ⟨A, c, rfl, hnc, hcm⟩ := (Rd.of_own hown).form; unfold maxLen at hcm; have hh := HX0.out w1 hb1; have HB1 := Lib.hid (HB0.out.trans (hb1.mono HB0.out.size)); have HOWN := Lib.hid (own_base hown HB0.out.size); have hs1 := HS.out w1 HB1.out; have x0 : w1.cell? ⟨w.heap.size, 0, none⟩ = some (.int .i64 af.s.T) := cell_of_row _ _ 0 _ _ _ hh; have x1 : w1.cell? ⟨w.heap.size, 1, none⟩ = some (.int .i64 af.s.R) := cell_of_row _ _ 1 _ _ _ hh; have x2 : w1.cell? ⟨w.heap.size, 2, none⟩ = some (.int .i64 af.I) := cell_of_row _ _ 2 _ _ _ hh; have x3 : w1.cell? ⟨w.heap.size, 3, none⟩ = some (.int .i64 el.s.T) := cell_of_row _ _ 3 _ _ _ hh; have x4 : w1.cell? ⟨w.heap.size, 4, none⟩ = some (.int .i64 el.s.R) := cell_of_row _ _ 4 _ _ _ hh; have x5 : w1.cell? ⟨w.heap.size, 5, none⟩ = some (.int .i64 el.I) := cell_of_row _ _ 5 _ _ _ hh; have c1 := hs1.shc.2.1; clear hown hb1 hh hs1)
  go_region
  obtain ⟨W3, hW3⟩ : ∃ W, (w1.alloc (.cells #[.int .i64 el.s.T, .int .i64 el.s.R, .int .i64 el.I] 26)).drew = W := ⟨_, rfl⟩
  obtain ⟨bX, hbX⟩ : ∃ z, w1.heap.size = z := ⟨_, rfl⟩
  have hx : W3.heap[bX]? = some (.cells #[.int .i64 el.s.T, .int .i64 el.s.R, .int .i64 el.I] 26 (0, 0)) := by rw [← hW3, ← hbX]; exact heap_alloc_new w1 _
  have hb3 : Below w.heap.size w W3 := by rw [← hW3]; exact (HB1.out.alloc HB1.out.size _).drew
  have hs := HS.out W3 hb3
  have d0 : W3.cell? ⟨bX, 0, none⟩ = some (.int .i64 el.s.T) := cell_of_row _ _ 0 _ _ _ hx
  have d1 : W3.cell? ⟨bX, 1, none⟩ = some (.int .i64 el.s.R) := cell_of_row _ _ 1 _ _ _ hx
  have d2 : W3.cell? ⟨bX, 2, none⟩ = some (.int .i64 el.I) := cell_of_row _ _ 2 _ _ _ hx
  have c1' := hs.shc.2.1
  have hl1 := hs.look el
  have hl2 := (hs.below (Below.refl _ W3).drew).look el
  rw [← heq, elF_some hu hee, heq] at hl1 hl2
  simp only [Option.getD_some, ptV] at hl1 hl2
  unfold idV at hl1 hl2
  have hEe := eq3_iff el zeroI
  rw [decide_eq_false (heq ▸ hnz ee hee)] at hEe
  have hE3 : eq3 el.s.T el.s.R el.I 0 0 0 = false := hEe
  have HB3 := Lib.hid hb3
  have HW3 := Lib.hid hW3
  clear hx hs hb3 hW3 x0 x1 x2 hE hE2 hEe HOWN HB1 c1 heq
  go_wp2
  rw [HW3.out]
  go_loopw [40] (fun i wr => i = .int .i64 0 ∧ wr = W3) (fun _ _ => 0)
  case atStart => exact ⟨rfl, rfl⟩
  case round =>
    obtain ⟨rfl, rfl⟩ := hrel
    go_wp2
    go_region
    go_wp2
    go_ret2
    exact ⟨_, rfl, HB3.out.drew⟩
end
end Go.Proofs.YtphapjbfaomblaaDoor
/- The sheet: one element more in memory. -/
namespace Go.Proofs.YtphapjbfaomblaaDoor
open Go Go.RowKit Go.Maps Go.ChangeMaps
theorem ofs_snoc (Es : List En) (e : En) : ofs (Es ++ [e]) = fun y => if y = e.id.s then ofs Es e.id.s ++ [e.id] else ofs Es y := by
  funext y
  unfold ofs
  rw [List.filter_append, List.map_append]
  by_cases h : y = e.id.s
  · subst h
    rw [if_pos rfl]
    simp
  · rw [if_neg h]
    have h' : ¬ e.id.s = y := fun e => h e.symm
    simp [h']
section
variable {u w8 W10 v1 W4 u2 : World} {p : Loc} {Fs : Nat → Prop} {Es : List En} {on : Stamp → Int} {R : Row Id} {n m n2 : Nat} {D : DataW (Option Nat)} {Dr : DataW Hd} {hd : Stamp → Hd} {Dn : DataW HH}
theorem ShtIs.more (h : ShtIs u p Fs Es on R n m n2 D Dr hd Dn) (e : En) (he : u.heap[e.ad]? = some (.cells (enCs e) 102 (0, 0))) (hf : ∀ k, sfoot p Fs Es hd k → k ≠ e.ad) (hxn : ∀ a ∈ Es, a.id ≠ e.id)
    (t8 : Touch (fun j => j = p.ma) u w8) (hm8 : w8.ownsMap Tryd.prog 26 (objElem ptV) p.ma (n + 1) (D.put (idK e.id) (.held (some e.ad)))) (h10 : Below w8.heap.size w8 W10) (f2 : W10.grownBy v1 (some p.mo))
    (hgrow : v1.grownBy W4 (hdV (hd e.id.s)).ownBlock) {g cap : Nat} (hown : W4.ownsRow 0 26 3 (hdV (some (g, (ofs Es e.id.s).length + 1, cap))) ((ofs Es e.id.s).length + 1) ((ofs Es e.id.s).flatMap idC ++ idC e.id)) (hat : (hdV (hd e.id.s)).ownBlock = some g ∨ g = v1.heap.size)
    (s2 : u2.ownsMap Tryd.prog 24 (objElem hdV) p.mo (m + 1) (Dr.put (stK e.id.s) (.held (some (g, (ofs Es e.id.s).length + 1, cap))))) (s3 : W4.grownBy u2 (some p.mo)) :
    ∃ D' Dr' hd', ShtIs u2 p Fs (Es ++ [e]) on R (n + 1) (m + 1) n2 D' Dr' hd' Dn ∧ Touch (fun j => j = p.ma ∨ j = p.mo ∨ (hdV (hd e.id.s)).ownBlock = some j) u u2 ∧ ∀ s j, (hdV (hd' s)).ownBlock = some j → (hdV (hd s)).ownBlock = some j ∨ u.heap.size ≤ j := by
  have t82 : Touch (fun j => j = p.mo ∨ (hdV (hd e.id.s)).ownBlock = some j) w8 u2 := (((Below.touch h10 _).grown f2 (fun k hk _ => .inl (by cases hk; rfl))).grown hgrow (fun k hk _ => .inr hk)).grown s3 (fun k hk _ => .inl (by cases hk; rfl))
  have T : Touch (fun j => j = p.ma ∨ j = p.mo ∨ (hdV (hd e.id.s)).ownBlock = some j) u u2 := (t8.mono (fun _ _ h => .inl h)).trans (t82.mono (fun _ _ h => .inr h)) (fun _ _ h => h)
  have hs1 : u.heap.size ≤ v1.heap.size := Nat.le_trans t8.size (Nat.le_trans h10.size f2.size)
  have hbig : ∀ k, sfoot p Fs Es hd k → k < v1.heap.size := fun k hk => Nat.lt_of_lt_of_le (h.lt hk) hs1
  have hrowk : ∀ y j, (hdV (hd y)).ownBlock = some j → sfoot p Fs Es hd j := fun y j hj => .inr (.inr (.inr (.inr (.inr (.inr ⟨y, hj⟩)))))
  have hm4 : u2.ownsMap Tryd.prog 26 (objElem ptV) p.ma (n + 1) (D.put (idK e.id) (.held (some e.ad))) := map_touch hm8 t82 (by
    rintro (h1 | h1)
    · exact h.maps.1 h1
    · exact (ne_kind (kind_row (h.of.rows _) h1) (kind_map h.all) (by decide)) rfl)
  have hnd : ∀ {k}, (∃ a ∈ Es ++ [e], k = a.ad) → ¬ (k = p.ma ∨ k = p.mo ∨ (hdV (hd e.id.s)).ownBlock = some k) := by
    rintro k ⟨a, ha, rfl⟩
    have hk : u.heap[a.ad]? = some (.cells (enCs a) 102 (0, 0)) := by
      rcases List.mem_append.1 ha with h1 | h1
      · exact h.els a h1
      · rw [List.mem_singleton.1 h1]; exact he
    rintro (h1 | h1 | h1)
    · exact ne_kind (kind_cell hk) (kind_map h.all) (by decide) h1
    · exact ne_kind (kind_cell hk) (kind_map h.of.map) (by decide) h1
    · exact ne_kind (kind_row (h.of.rows _) h1) (kind_cell hk) (by decide) rfl
  have hg2 : ∀ y j, (hdV ((fun y => if y = e.id.s then some (g, (ofs Es e.id.s).length + 1, cap) else hd y) y)).ownBlock = some j → (hdV (hd y)).ownBlock = some j ∨ v1.heap.size ≤ j := by
    intro y j hj
    by_cases hy : y = e.id.s
    · simp only [if_pos hy] at hj
      have hjg : j = g := by simpa [hdV, Value.ownBlock] using hj.symm
      subst hjg
      rcases hat with h1 | h1
      · exact .inl (hy ▸ h1)
      · exact .inr (Nat.le_of_eq h1.symm)
    · simp only [if_neg hy] at hj
      exact .inl hj
  have hS8 : SRows W10 0 p.mo m Dr hd (ofs Es) := (h.of.touch t8 (fun e1 => h.maps.1 e1.symm) (fun y j hj => ne_kind (kind_row (h.of.rows y) hj) (kind_map h.all) (by decide))).below h10
  have tW4 : Touch (fun j => j = p.mo ∨ (hdV (hd e.id.s)).ownBlock = some j) W10 u2 := (((Touch.refl _ W10).grown f2 (fun k hk _ => .inl (by cases hk; rfl))).grown hgrow (fun k hk _ => .inr hk)).grown s3 (fun k hk _ => .inl (by cases hk; rfl))
  have hgm : g ≠ p.mo := by
    rintro rfl
    rcases hat with h1 | h1
    · exact hS8.ne h1 rfl
    · have := hbig p.mo (.inr (.inr (.inl rfl))); omega
  have hS : SRows u2 0 p.mo (m + 1) _ _ _ := hS8.put (x := e.id.s) (a := some (g, (ofs Es e.id.s).length + 1, cap)) (l := ofs Es e.id.s ++ [e.id]) s2 (by simp)
    (by
      rw [List.length_append, List.flatMap_append, List.flatMap_singleton]
      exact hown.kept s3 (.inr (by simp [hdV, Value.ownBlock]; exact hgm)))
    (fun y hy => own_touch (hS8.rows y) tW4 (fun k hk => by
      rintro (rfl | h')
      · exact hS8.ne hk rfl
      · exact hS8.apart y e.id.s hy k hk h'))
    (fun y hy k hk h' => by
      have hkg : k = g := by simpa [hdV, Value.ownBlock] using hk.symm
      subst hkg
      rcases hat with h1 | h1
      · exact hS8.apart y e.id.s hy k h' h1
      · have := hbig k (hrowk y k h'); omega)
  refine ⟨_, _, _, { cell := ?_, shelf := ?_, all := hm4, fm := ?_, els := ?_, ads := ?_, of := by rw [ofs_snoc]; exact hS, onm := ?_, ct := h.ct, maps := h.maps, apart := ?_, uniq := ?_ }, T, fun s j hj => (hg2 s j hj).imp id (fun h => Nat.le_trans hs1 h)⟩
  · refine block_touch h.cell T ?_
    rintro (h1 | h1 | h1)
    · exact ne_kind (kind_cell h.cell) (kind_map h.all) (by decide) h1
    · exact ne_kind (kind_cell h.cell) (kind_map h.of.map) (by decide) h1
    · exact ne_kind (kind_row (h.of.rows _) h1) (kind_cell h.cell) (by decide) rfl
  · refine h.shelf.touch T (fun k hk => ?_)
    obtain ⟨_, a2, a3, _, _, a6⟩ := h.apart k hk
    rintro (h1 | h1 | h1)
    · exact a2 h1
    · exact a3 h1
    · exact a6 _ h1
  · refine (h.fm.put ok26 h.all.isMap e.id (some e.ad)).congr (fun y => ?_)
    unfold elF
    rw [List.find?_append]
    by_cases hy : y = e.id
    · subst hy
      rw [if_pos rfl, List.find?_eq_none.2 (fun a ha => by simpa using hxn a ha)]
      simp
    · rw [if_neg hy]
      have hy' : ¬ e.id = y := fun h => hy h.symm
      simp [hy']
  · intro a ha
    refine block_touch ?_ T (hnd ⟨a, ha, rfl⟩)
    rcases List.mem_append.1 ha with h1 | h1
    · exact h.els a h1
    · rw [List.mem_singleton.1 h1]; exact he
  · refine List.pairwise_append.2 ⟨h.ads, List.pairwise_singleton _ _, fun a ha b hb => ?_⟩
    rw [List.mem_singleton.1 hb]
    exact hf _ (.inr (.inr (.inr (.inr (.inr (.inl ⟨a, ha, rfl⟩))))))
  · refine map_touch h.onm T ?_
    rintro (h1 | h1 | h1)
    · exact h.maps.2.1 h1.symm
    · exact h.maps.2.2 h1.symm
    · exact ne_kind (kind_row (h.of.rows _) h1) (kind_map h.onm) (by decide) rfl
  · intro k hk
    obtain ⟨a1, a2, a3, a4, a5, a6⟩ := h.apart k hk
    refine ⟨a1, a2, a3, a4, fun a ha => ?_, fun s hs => ?_⟩
    · rcases List.mem_append.1 ha with h1 | h1
      · exact a5 a h1
      · rw [List.mem_singleton.1 h1]; exact hf k (.inr (.inr (.inr (.inr (.inl hk)))))
    · rcases hg2 s k hs with h1 | h1
      · exact a6 s h1
      · have := hbig k (.inr (.inr (.inr (.inr (.inl hk))))); omega
  · refine List.pairwise_append.2 ⟨h.uniq, List.pairwise_singleton _ _, fun a ha b hb => ?_⟩
    rw [List.mem_singleton.1 hb]
    exact hxn a ha
end
end Go.Proofs.YtphapjbfaomblaaDoor
