/- Texts of this seat, one behind the other: JG, JH, GE, S. -/
import Derived.Test.YtphapjbfaomblaaDoorZb14
import Derived.Test.YtphapjbfaomblaaDoorZb10
import Derived.Test.YtphapjbfaomblaaDoorZb3
import Derived.Test.YtphapjbfaomblaaDoorZb7
import Derived.RegionTactic
import Derived.Deep.AppendLies
import Derived.Lib.SliceRun
import Derived.Test.YtphapjbfaomblaaDoorZb2
import Derived.Test.YtphapjbfaomblaaDoorZb4
import Derived.Shelf.SlSortCmp.NoneTotal
/- The sheet: Set. -/
namespace Go.Proofs.YtphapjbfaomblaaDoor
open Go Go.RowKit Go.Maps Go.ChangeMaps
def onT (on : Stamp → Int) (s : Stamp) (d : Int) : Stamp → Int := fun t => if t = s then on s + d else on t
def atS (Es : List En) (s : Stamp) : List En := Es.filter (fun e => decide (e.id.s = s))
/-- each of some elements is shown anew -/
def shown (on : Stamp → Int) (R : Row Id) (L : List En) : Row Id := L.foldl (fun R e => showR R e.id (seenV on e)) R
theorem shown_names (on : Stamp → Int) : ∀ (L : List En) (R : Row Id), (∀ e ∈ L, e.id ∈ namesR R) → namesR (shown on R L) = namesR R
  | [], _, _ => rfl
  | e :: L, R, h => by
    have h1 := showR_names (seenV on e) (h e (List.mem_cons_self ..))
    show namesR (shown on (showR R e.id (seenV on e)) L) = namesR R
    rw [shown_names on L _ (fun a ha => by rw [h1]; exact h a (List.mem_cons_of_mem _ ha)), h1]
theorem shown_snoc (on : Stamp → Int) (L : List En) (R : Row Id) (e : En) : shown on R (L ++ [e]) = showR (shown on R L) e.id (seenV on e) := by
  simp [shown, List.foldl_append]
section
variable {w : World} {p : Loc} {Fs : Nat → Prop} {Es : List En} {on : Stamp → Int} {R : Row Id} {n m n2 : Nat} {D : DataW (Option Nat)} {Dr : DataW Hd} {hd : Stamp → Hd} {Dn : DataW HH}
/-- 'on[s]' is one more, or one fewer -/
theorem ShtIs.tick (h : ShtIs w p Fs Es on R n m n2 D Dr hd Dn) (s : Stamp) (d : Int) (hw : I64 (on s + d)) (hn : n2 < maxLen) :
    ∃ st w1 w2, (Instr.mapEntry 80 (.map (some p.mn)) (stV s)).run Tryd.prog w = .ok (.tuple #[.int .i64 (on s), goInt st]) w1 ∧ (Instr.lookup 80 (.map (some p.mn)) (stV s) false).run Tryd.prog w1 = .ok (.int .i64 (on s)) w1 ∧
      (Instr.entryStore 80 (.map (some p.mn)) (goInt st) (.int .i64 (on s + d))).run Tryd.prog w1 = .ok () w2 ∧ Touch (fun k => k = p.mn) w w2 ∧ ∃ Dn', ShtIs w2 p Fs Es (onT on s d) R n m (n2 + 1) D Dr hd Dn' := by
  obtain ⟨v0, st, w1, w2, e1, e2, e3, e4, hM, hg⟩ := own_entry (val := .int .i64 (on s + d)) h.onm law24 Tryd.underlying80 (fun u => zero3 u) hn (key24 s) (plain3 _ hw)
  have hv : v0 = .int .i64 (on s) := by
    rw [h.count s] at e1
    cases e1
    rfl
  subst hv
  have t : Touch (fun k => k = p.mn) w w2 := (Touch.refl _ w).grown hg (fun k hk _ => by cases hk; rfl)
  refine ⟨st, w1, w2, e2, e3, e4, t, _, h.turnOn t hM (fun u => ?_)⟩
  unfold onT
  by_cases hs : s = u
  · subst hs
    rw [Maps.atKey_put_same h.onm.isMap (keyed24.key (key24 s)), if_pos rfl]
  · rw [Maps.atKey_put_other (fun e' => hs (stK_inj e').symm), h.ct u, if_neg (fun e => hs e.symm)]
theorem ShtIs.names (h : ShtIs w p Fs Es on R n m n2 D Dr hd Dn) (s : Stamp) : w.ownsRow 0 26 3 (hdV (hd s)) (atS Es s).length (((atS Es s).map En.id).flatMap idC) := by
  have := h.of.rows s
  unfold ofs at this
  rw [List.length_map] at this
  exact this
def SetRel (w0 : World) (p : Loc) (Fs : Nat → Prop) (Es : List En) (on : Stamp → Int) (R : Row Id) (n m n2 : Nat) (D : DataW (Option Nat)) (Dr : DataW Hd) (hd : Stamp → Hd) (Dn : DataW HH) (L : List En) (i : Value) (wr : World) : Prop :=
  ∃ k : Nat, k ≤ L.length ∧ i = .int .i64 k ∧ ShtIs wr p Fs Es on (shown on R (L.take k)) n m n2 D Dr hd Dn ∧ Touch (fun k => Fs k ∨ k = p.mn) w0 wr
set_option maxRecDepth 100000 in
set_option maxHeartbeats 8000000 in
theorem set_any (h : ShtIs w p Fs Es on R n m n2 D Dr hd Dn) (s : Stamp) (q : Bool) (hR : ∀ e ∈ Es, e.id ∈ namesR R) (hl : R.length ≤ 100000) (hE : Es.length ≤ 100000) (hn : n2 ≤ 100000) (ho : -1000000 ≤ on s ∧ on s ≤ 1000000) :
    Calls Tryd.prog 25 #[.pointer (some ⟨p.sh, 0, none⟩), stV s, .bool q] w fun r w' => (∃ v, r = .returned v) ∧
      (∃ Dn', ShtIs w' p Fs Es (onT on s (if q then 1 else -1)) (shown (onT on s (if q then 1 else -1)) R (atS Es s)) n m (n2 + 1) D Dr hd Dn') ∧ Touch (fun k => Fs k ∨ k = p.mn) w w' := by
  obtain ⟨W0, hW0⟩ : ∃ W, w.alloc (.cells #[.int .i64 s.T, .int .i64 s.R] 24) = W := ⟨_, rfl⟩
  have hb0 : Below w.heap.size w W0 := by rw [← hW0]; exact (Below.refl _ w).alloc (Nat.le_refl _) _
  have hx0 : W0.heap[w.heap.size]? = some (.cells #[.int .i64 s.T, .int .i64 s.R] 24 (0, 0)) := by rw [← hW0]; exact heap_alloc_new w _
  have h0 := h.below hb0
  have hmn : p.mn < w.heap.size := h.lt (.inr (.inr (.inr (.inl rfl))))
  obtain ⟨bx, hbx⟩ : ∃ z, w.heap.size = z := ⟨_, rfl⟩
  rw [hbx] at hx0 hmn
  have hbxl : bx < W0.heap.size := (Array.getElem?_eq_some_iff.1 hx0).1
  have hsf : (atS Es s).length ≤ Es.length := List.length_filter_le _ _
  have hLm : ∀ e ∈ atS Es s, e ∈ Es := fun e he => (List.mem_filter.1 he).1
  have hLn : ∀ e ∈ atS Es s, e.id ∈ namesR R := fun e he => hR e (hLm e he)
  obtain ⟨L, hL⟩ : ∃ L, atS Es s = L := ⟨_, rfl⟩
  rw [hL] at hsf hLm hLn ⊢
  have HL := Lib.hid hL
  have HLm := Lib.hid hLm
  have HLn := Lib.hid hLn
  have HE := Lib.hid hE
  have HLE := Lib.hid hsf
  have HRL := Lib.hid hl
  have HBX := Lib.hid hbx
  have HW0 := Lib.hid hW0
  have HB0 := Lib.hid hb0
  clear hsf hLm hLn hL hR hb0 hE hl
  have h0d := h0.below (Below.refl _ W0).drew
  have g0 : W0.cell? ⟨bx, 0, none⟩ = some (.int .i64 s.T) := cell_of_row _ _ 0 _ _ _ hx0
  have g1 : W0.cell? ⟨bx, 1, none⟩ = some (.int .i64 s.R) := cell_of_row _ _ 1 _ _ _ hx0
  have a0 : W0.drew.cell? ⟨bx, 0, none⟩ = some (.int .i64 s.T) := g0
  have a1 : W0.drew.cell? ⟨bx, 1, none⟩ = some (.int .i64 s.R) := g1
  obtain ⟨_, _, _, c3⟩ := h0.shc
  have c3' : W0.drew.cell? ⟨p.sh, 3, none⟩ = some (.map (some p.mn)) := c3
  cases q
  · obtain ⟨st, w1, w2, e2, e3, e4, ht, Dn', h2⟩ := h0d.tick s (-1) (by unfold I64; omega) (by unfold maxLen; omega)
    have hct := h0d.count s
    obtain ⟨o, hos⟩ : ∃ o, on s = o := ⟨_, rfl⟩
    rw [hos] at hct e2 e3 e4 ho
    have hw : IntKind.i64.wrap (o - 1) = o + (-1) := by rw [IntWalk.i64_in _ (by omega)]; omega
    have hx2 : w2.heap[bx]? = some (.cells #[.int .i64 s.T, .int .i64 s.R] 24 (0, 0)) := block_touch hx0 ((Below.touch (Below.refl _ W0).drew _).trans ht (fun _ _ h => h)) (fun e => by omega)
    have d0 : w2.cell? ⟨bx, 0, none⟩ = some (.int .i64 s.T) := cell_of_row _ _ 0 _ _ _ hx2
    have d1 : w2.cell? ⟨bx, 1, none⟩ = some (.int .i64 s.R) := cell_of_row _ _ 1 _ _ _ hx2
    have d0' : w2.drew.cell? ⟨bx, 0, none⟩ = some (.int .i64 s.T) := d0
    have d1' : w2.drew.cell? ⟨bx, 1, none⟩ = some (.int .i64 s.R) := d1
    obtain ⟨_, _, f2, _⟩ := h2.shc
    have hlk := h2.of.look s
    have hlk' := (h2.below (Below.refl _ w2).drew).of.look s
    have hrw := h2.names s
    rw [HL.out] at hrw
    obtain ⟨A, c, hA, hnc, hcm⟩ := (Rd.of_own hrw).form
    rw [hA] at hlk hlk' hrw
    unfold maxLen at hcm
    unfold stV at e2 e3 hct hlk hlk'
    unfold goInt at e2 e4
    have t2 : Touch (fun k => Fs k ∨ k = p.mn) w w2 := ((Below.touch HB0.out _).trans (Below.touch (Below.refl _ W0).drew _) (fun _ _ h => h)).trans (ht.mono (fun _ _ h => .inr h)) (fun _ _ h => h)
    have h2d := h2.below (Below.refl _ w2).drew
    have hst : SetRel w p Fs Es (onT on s (-1)) R n m (n2 + 1) D Dr hd Dn' L (.int .i64 0) w2.drew := ⟨0, Nat.zero_le _, rfl, h2d, t2.trans (Below.touch (Below.refl _ w2).drew _) (fun _ _ h => h)⟩
    have HST := Lib.hid hst
    have HA := Lib.hid hA
    simp only [Bool.false_eq_true, if_false] at *
    clear h h0 h0d h2 h2d hst ht t2 hx2 hx0 hW0 hbx hrw hA hos
    unfold stV
    go_enter Tryd.func25, Tryd.ntmps25
    go_wp2
    rw [HW0.out, HBX.out]
    go_region
    clear g0 g1 a0 a1 e2 e3 e4 hct c3 c3'
    go_wp2
    go_region
    clear d0 d1 d0' d1' f2 hlk hlk'
    go_wp2
    go_loopw [34] (fun i wr => SetRel w p Fs Es (onT on s (-1)) R n m (n2 + 1) D Dr hd Dn' L i wr) (fun i _ => L.length - (intOf i).toNat)
    case atStart => exact HST.out
    case round =>
      clear HST
      obtain ⟨k, hk, rfl, hS, ht⟩ := hrel
      obtain ⟨wo, rfl⟩ : ∃ wo : World, wo = wr := ⟨_, rfl⟩
      by_cases hlt : k < L.length
      · have htk := List.take_succ_eq_append_getElem hlt
        obtain ⟨e, he⟩ : ∃ e, L[k] = e := ⟨_, rfl⟩
        have hem : e ∈ L := he ▸ List.getElem_mem hlt
        have hrw := hS.names s
        rw [HL.out, HA.out] at hrw
        obtain ⟨gr, og, rfl, hBr, hcell⟩ := rd_at idC 3 (fun _ => rfl) (by decide) (Rd.of_own hrw) (show k < (L.map En.id).length by rw [List.length_map]; exact hlt)
        rw [List.getElem_map] at hcell
        rw [he] at hcell htk
        have c0 : wo.cell? ⟨gr, og + k * 3, none⟩ = some (.int .i64 e.id.s.T) := hcell 0 _ rfl
        have c1 : wo.cell? ⟨gr, og + k * 3 + 1, none⟩ = some (.int .i64 e.id.s.R) := hcell 1 _ rfl
        have c2 : wo.cell? ⟨gr, og + k * 3 + 2, none⟩ = some (.int .i64 e.id.I) := hcell 2 _ rfl
        have i1 : (0 : Int) ≤ (k : Int) := by omega
        have i2 : (k : Int) < (L.length : Int) := by omega
        have hnm := shown_names (onT on s (-1)) (L.take k) R (fun a ha => HLn.out a (List.mem_of_mem_take ha))
        have hll : (shown (onT on s (-1)) R (L.take k)).length = R.length := by rw [← names_len, hnm, names_len]
        have HSH := Lib.hid (fun W (hW : Below wo.heap.size wo W) => shw_any (hS.below hW) (HLm.out e hem) (by rw [hnm]; exact HLn.out e hem) (by rw [hll]; exact HRL.out))
        unfold idV at HSH
        have HTK := Lib.hid htk
        have HT := Lib.hid ht
        have HLL : L.length ≤ 100000 := Nat.le_trans HLE.out HE.out
        have HLT := Lib.hid hlt
        clear htk ht hcell hrw hnm hll hS hem he
        go_wp2_with (go_at_call 51; refine (HSH.out _ ((Below.refl _ wo).alloc (Nat.le_refl _) _)).mono ?_; rintro r w6 ⟨⟨_, rfl⟩, hs6, ht6⟩)
        go_roundw
        case rel => exact ⟨k + 1, HLT.out, by go_num, by rw [HTK.out, shown_snoc]; exact hs6, HT.out.trans ((Below.touch ((Below.refl _ wo).alloc (Nat.le_refl _) _) _).trans (ht6.mono (fun _ _ h => .inl h)) (fun _ _ h => h)) (fun _ _ h => h)⟩
        case measure => simp [intOf]; omega
      · obtain rfl : k = L.length := by omega
        rw [List.take_length] at hS
        have HSS := Lib.hid hS
        have HT := Lib.hid ht
        clear hS ht
        go_wp2
        go_end0
        exact ⟨⟨_, rfl⟩, ⟨_, HSS.out⟩, HT.out⟩
  · obtain ⟨st, w1, w2, e2, e3, e4, ht, Dn', h2⟩ := h0d.tick s 1 (by unfold I64; omega) (by unfold maxLen; omega)
    have hct := h0d.count s
    obtain ⟨o, hos⟩ : ∃ o, on s = o := ⟨_, rfl⟩
    rw [hos] at hct e2 e3 e4 ho
    have hw : IntKind.i64.wrap (o + 1) = o + 1 := by rw [IntWalk.i64_in _ (by omega)]
    have hx2 : w2.heap[bx]? = some (.cells #[.int .i64 s.T, .int .i64 s.R] 24 (0, 0)) := block_touch hx0 ((Below.touch (Below.refl _ W0).drew _).trans ht (fun _ _ h => h)) (fun e => by omega)
    have d0 : w2.cell? ⟨bx, 0, none⟩ = some (.int .i64 s.T) := cell_of_row _ _ 0 _ _ _ hx2
    have d1 : w2.cell? ⟨bx, 1, none⟩ = some (.int .i64 s.R) := cell_of_row _ _ 1 _ _ _ hx2
    have d0' : w2.drew.cell? ⟨bx, 0, none⟩ = some (.int .i64 s.T) := d0
    have d1' : w2.drew.cell? ⟨bx, 1, none⟩ = some (.int .i64 s.R) := d1
    obtain ⟨_, _, f2, _⟩ := h2.shc
    have hlk := h2.of.look s
    have hlk' := (h2.below (Below.refl _ w2).drew).of.look s
    have hrw := h2.names s
    rw [HL.out] at hrw
    obtain ⟨A, c, hA, hnc, hcm⟩ := (Rd.of_own hrw).form
    rw [hA] at hlk hlk' hrw
    unfold maxLen at hcm
    unfold stV at e2 e3 hct hlk hlk'
    unfold goInt at e2 e4
    have t2 : Touch (fun k => Fs k ∨ k = p.mn) w w2 := ((Below.touch HB0.out _).trans (Below.touch (Below.refl _ W0).drew _) (fun _ _ h => h)).trans (ht.mono (fun _ _ h => .inr h)) (fun _ _ h => h)
    have h2d := h2.below (Below.refl _ w2).drew
    have hst : SetRel w p Fs Es (onT on s 1) R n m (n2 + 1) D Dr hd Dn' L (.int .i64 0) w2.drew := ⟨0, Nat.zero_le _, rfl, h2d, t2.trans (Below.touch (Below.refl _ w2).drew _) (fun _ _ h => h)⟩
    have HST := Lib.hid hst
    have HA := Lib.hid hA
    simp only [if_true] at *
    clear h h0 h0d h2 h2d hst ht t2 hx2 hx0 hW0 hbx hrw hA hos
    unfold stV
    go_enter Tryd.func25, Tryd.ntmps25
    go_wp2
    rw [HW0.out, HBX.out]
    go_region
    clear g0 g1 a0 a1 e2 e3 e4 hct c3 c3'
    go_wp2
    go_region
    clear d0 d1 d0' d1' f2 hlk hlk'
    go_wp2
    go_loopw [34] (fun i wr => SetRel w p Fs Es (onT on s 1) R n m (n2 + 1) D Dr hd Dn' L i wr) (fun i _ => L.length - (intOf i).toNat)
    case atStart => exact HST.out
    case round =>
      clear HST
      obtain ⟨k, hk, rfl, hS, ht⟩ := hrel
      obtain ⟨wo, rfl⟩ : ∃ wo : World, wo = wr := ⟨_, rfl⟩
      by_cases hlt : k < L.length
      · have htk := List.take_succ_eq_append_getElem hlt
        obtain ⟨e, he⟩ : ∃ e, L[k] = e := ⟨_, rfl⟩
        have hem : e ∈ L := he ▸ List.getElem_mem hlt
        have hrw := hS.names s
        rw [HL.out, HA.out] at hrw
        obtain ⟨gr, og, rfl, hBr, hcell⟩ := rd_at idC 3 (fun _ => rfl) (by decide) (Rd.of_own hrw) (show k < (L.map En.id).length by rw [List.length_map]; exact hlt)
        rw [List.getElem_map] at hcell
        rw [he] at hcell htk
        have c0 : wo.cell? ⟨gr, og + k * 3, none⟩ = some (.int .i64 e.id.s.T) := hcell 0 _ rfl
        have c1 : wo.cell? ⟨gr, og + k * 3 + 1, none⟩ = some (.int .i64 e.id.s.R) := hcell 1 _ rfl
        have c2 : wo.cell? ⟨gr, og + k * 3 + 2, none⟩ = some (.int .i64 e.id.I) := hcell 2 _ rfl
        have i1 : (0 : Int) ≤ (k : Int) := by omega
        have i2 : (k : Int) < (L.length : Int) := by omega
        have hnm := shown_names (onT on s 1) (L.take k) R (fun a ha => HLn.out a (List.mem_of_mem_take ha))
        have hll : (shown (onT on s 1) R (L.take k)).length = R.length := by rw [← names_len, hnm, names_len]
        have HSH := Lib.hid (fun W (hW : Below wo.heap.size wo W) => shw_any (hS.below hW) (HLm.out e hem) (by rw [hnm]; exact HLn.out e hem) (by rw [hll]; exact HRL.out))
        unfold idV at HSH
        have HTK := Lib.hid htk
        have HT := Lib.hid ht
        have HLL : L.length ≤ 100000 := Nat.le_trans HLE.out HE.out
        have HLT := Lib.hid hlt
        clear htk ht hcell hrw hnm hll hS hem he
        go_wp2_with (go_at_call 51; refine (HSH.out _ ((Below.refl _ wo).alloc (Nat.le_refl _) _)).mono ?_; rintro r w6 ⟨⟨_, rfl⟩, hs6, ht6⟩)
        go_roundw
        case rel => exact ⟨k + 1, HLT.out, by go_num, by rw [HTK.out, shown_snoc]; exact hs6, HT.out.trans ((Below.touch ((Below.refl _ wo).alloc (Nat.le_refl _) _) _).trans (ht6.mono (fun _ _ h => .inl h)) (fun _ _ h => h)) (fun _ _ h => h)⟩
        case measure => simp [intOf]; omega
      · obtain rfl : k = L.length := by omega
        rw [List.take_length] at hS
        have HSS := Lib.hid hS
        have HT := Lib.hid ht
        clear hS ht
        go_wp2
        go_end0
        exact ⟨⟨_, rfl⟩, ⟨_, HSS.out⟩, HT.out⟩
end
end Go.Proofs.YtphapjbfaomblaaDoor
/- The sheet: New. -/
namespace Go.Proofs.YtphapjbfaomblaaDoor
open Go Go.RowKit Go.Maps Go.ChangeMaps
theorem made_at (w : World) (k : TypeId) {H : Type} (R : Value → Option (DataW H × List MemPlace)) : (w.alloc (.map #[] 0)).ownsMap Tryd.prog k R w.heap.size 0 (.map []) := World.ownsMap_made w _ _ _
theorem sheet_start {w w1 : World} {sb : Nat} (hb : Below w.heap.size w w1) (hA : ShelfAt w1 (fun k => w.heap.size ≤ k ∧ k < w1.heap.size) sb []) :
    let W4 := (((w1.alloc (.map #[] 0)).alloc (.map #[] 0)).alloc (.map #[] 0)).alloc (.cells #[.pointer (some ⟨sb, 0, none⟩), .map (some w1.heap.size), .map (some (w1.heap.size + 1)), .map (some (w1.heap.size + 2))] 91)
    ShtIs W4 ⟨w1.heap.size + 3, sb, w1.heap.size, w1.heap.size + 1, w1.heap.size + 2⟩ (fun k => w.heap.size ≤ k ∧ k < w1.heap.size) [] (fun _ => 0) [] 0 0 0 (.map []) (.map []) (fun _ => none) (.map []) ∧ Below w.heap.size w W4 := by
  intro W4
  have b1 : Below w1.heap.size w1 (w1.alloc (.map #[] 0)) := (Below.refl _ w1).alloc (Nat.le_refl _) _
  have b2 : Below w1.heap.size w1 ((w1.alloc (.map #[] 0)).alloc (.map #[] 0)) := b1.alloc (by simp) _
  have b3 : Below w1.heap.size w1 (((w1.alloc (.map #[] 0)).alloc (.map #[] 0)).alloc (.map #[] 0)) := b2.alloc (by simp; omega) _
  have b4 : Below w1.heap.size w1 W4 := b3.alloc (by simp; omega) _
  have n0 : ∀ (u : World) (o : Obj), Touch (fun _ => False) u (u.alloc o) := fun u o => (Touch.refl _ u).alloc o
  have m1 : W4.ownsMap Tryd.prog 26 (objElem ptV) w1.heap.size 0 (.map []) := map_touch (map_touch (map_touch (made_at w1 26 _) (n0 _ _) (fun h => h)) (n0 _ _) (fun h => h)) (n0 _ _) (fun h => h)
  have m2 : W4.ownsMap Tryd.prog 24 (objElem hdV) (w1.heap.size + 1) 0 (.map []) := by
    have := made_at (w1.alloc (.map #[] 0)) 24 (objElem hdV)
    rw [World.size_alloc] at this
    exact map_touch (map_touch this (n0 _ _) (fun h => h)) (n0 _ _) (fun h => h)
  have m3 : W4.ownsMap Tryd.prog 24 (plainElem (H := HH) Tryd.prog 3) (w1.heap.size + 2) 0 (.map []) := by
    have := made_at ((w1.alloc (.map #[] 0)).alloc (.map #[] 0)) 24 (plainElem (H := HH) Tryd.prog 3)
    rw [World.size_alloc, World.size_alloc] at this
    exact map_touch this (n0 _ _) (fun h => h)
  have hc : W4.heap[w1.heap.size + 3]? = some (.cells #[.pointer (some ⟨sb, 0, none⟩), .map (some w1.heap.size), .map (some (w1.heap.size + 1)), .map (some (w1.heap.size + 2))] 91 (0, 0)) := by
    have := heap_alloc_new (((w1.alloc (.map #[] 0)).alloc (.map #[] 0)).alloc (.map #[] 0)) (.cells #[.pointer (some ⟨sb, 0, none⟩), .map (some w1.heap.size), .map (some (w1.heap.size + 1)), .map (some (w1.heap.size + 2))] 91)
    rw [World.size_alloc, World.size_alloc, World.size_alloc] at this
    exact this
  refine ⟨{ cell := hc, shelf := hA.below b4, all := m1, fm := (FMap.start _).congr (fun _ => rfl), els := fun e he => by simp at he, ads := List.Pairwise.nil, of := ⟨m2, (FMap.start _).congr (fun _ => rfl), fun x => World.ownsRow_nil _ _ _ _, fun x y _ g hg => by cases hg⟩, onm := m3, ct := fun s => rfl, maps := ⟨by dsimp only; omega, by dsimp only; omega, by dsimp only; omega⟩, apart := fun k hk => ?_, uniq := List.Pairwise.nil }, hb.trans (b4.mono hb.size)⟩
  dsimp only
  exact ⟨by omega, by omega, by omega, by omega, fun e he => by simp at he, fun s h => by cases h⟩
set_option maxRecDepth 100000 in
set_option maxHeartbeats 4000000 in
theorem sheet_new (w : World) : Calls Tryd.prog 22 #[] w fun e w' => ∃ p Fs, e = .returned (.pointer (some ⟨Loc.sh p, 0, none⟩)) ∧
    ShtIs w' p Fs [] (fun _ => 0) [] 0 0 0 (.map []) (.map []) (fun _ => none) (.map []) ∧ (∀ k, sfoot p Fs [] (fun _ => none) k → w.heap.size ≤ k) ∧ Below w.heap.size w w' := by
  have hmm := @run_makeMap Tryd.prog
  go_enter Tryd.func22, Tryd.ntmps22
  go_wp2_with (go_at_call 46; refine (new_any w).mono ?_; rintro e w1 ⟨sb, rfl, hlo, hA, hb⟩; have HS := Lib.hid (sheet_start hb hA); clear hA)
  go_ret
  refine ⟨⟨w1.heap.size + 3, sb, w1.heap.size, w1.heap.size + 1, w1.heap.size + 2⟩, _, rfl, HS.out.1, fun k hk => ?_, HS.out.2⟩
  have hs := hb.size
  rcases hk with rfl | rfl | rfl | rfl | ⟨h, _⟩ | ⟨e, he, _⟩ | ⟨s, h⟩
  · dsimp only; omega
  · dsimp only; omega
  · dsimp only; omega
  · dsimp only; omega
  · exact h
  · simp at he
  · cases h
end Go.Proofs.YtphapjbfaomblaaDoor
/- A row copied; a row cut short; append of a row at a step of a region that draws. -/
namespace Go.Proofs.YtphapjbfaomblaaDoor
open Go Go.RowKit
theorem own_cut {w : World} {base : Nat} {e : TypeId} {K n m : Nat} {A : Option Addr} {c : Nat} {xs : List Value} (h : w.ownsRow base e K (.slice A n c) n xs) (hm : m ≤ n) : w.ownsRow base e K (.slice A m c) m (xs.take (m * K)) := by
  refine ⟨by rw [List.length_take, h.1]; exact Nat.min_eq_left (Nat.mul_le_mul_right _ hm), ?_⟩
  rcases h.2 with ⟨e1, rfl⟩ | ⟨g, cap, cur, e1, h2, h3, h4, h5, h6, h7⟩
  · cases e1
    exact .inl ⟨by rw [Nat.le_zero.1 hm], Nat.le_zero.1 hm⟩
  · cases e1
    refine .inr ⟨g, c, cur, rfl, h2, h3, by omega, h5, h6, ?_⟩
    rw [← h7, List.take_take, Nat.min_eq_left (Nat.mul_le_mul_right _ hm)]
theorem wp_append_row {P : Program} {w : World} {o : Oper} {a : Act} {K : Act → World → Prop} {Q : Exit → Act → World → Prop} (s x : Operand) (t : TypeId)
    (ho : o.op = .call { callee := .builtin .append, args := #[s, x], argTypes := #[t, t] })
    (base : Nat) (e : TypeId) (i : TypeInfo) (z : Value) (size bytes : Nat) (ht : P.underlying t = some (.slice e)) (hi : P.info? e = some i) (hz : i.zero = some z)
    (hsize : i.size = size) (hby : i.bytes = bytes) (hzs : z.cells.size = size) (hsz : 0 < size)
    (v : Value) (n : Nat) (xs : List Value) (hs : a.eval s = v) (hown : w.ownsRow base e size v n xs)
    (vb : Value) (base' m : Nat) (news : List Value) (hx : a.eval x = vb) (hsrc : w.ownsRow base' e size vb m news) (h1 : ∀ u ∈ news, u.oneCell' = true)
    (h63 : n + m ≤ maxLen) (hbytes : (n + m) * bytes ≤ 140737488355328) (hbase : base ≤ w.heap.size)
    (h : ∀ v' w', w'.ownsRow base e size v' (n + m) (xs ++ news) → w.grownBy w' v.ownBlock → (v'.ownBlock = v.ownBlock ∨ v'.ownBlock = some w.heap.size) → K (a.put o.dst v') w') : o.wp P a w K Q := by
  rcases hsrc.2 with ⟨rfl, rfl⟩ | ⟨g, cap, cur, rfl, _, _, _, _, _, _⟩
  · have hn : news = [] := List.eq_nil_of_length_eq_zero (by simpa using hsrc.1)
    subst hn
    have hr := run_append_owned_none (w := w) base t o.type e i size ht hi v n xs hown
    unfold Oper.wp execOp
    simp only [ho, resolve, invoke, builtin, Sem.run_bind, Sem.run_pure, Result.andThen_ok, List.map_toArray, List.map_cons, List.map_nil, hs, hx, hr]
    exact h v w (by simpa using hown) ⟨rfl, rfl, rfl, Nat.le_refl _, fun _ _ _ => rfl⟩ (.inl rfl)
  · obtain ⟨v', w', hr, h2, h3, _, h5⟩ := run_append_own_at (P := P) w base t o.type e i z size bytes ht hi hz hsize hby hzs hsz v n xs hown ⟨g, 0, none⟩ m cap news hsrc.1 (hsrc.cells (g := g) rfl) h1 h63 hbytes hbase
    unfold Oper.wp execOp
    simp only [ho, resolve, invoke, builtin, Sem.run_bind, Sem.run_pure, Result.andThen_ok, List.map_toArray, List.map_cons, List.map_nil, hs, hx, hr]
    exact h v' w' h2 h3 h5
theorem step_append_row {P : Program} (w : World) {ops : Array Oper} {o : Oper} {a : Act} {K : Act → World → Prop} {Q : Exit → Act → World → Prop} {E : Prop} (hgd : o.guard = none) (s x : Operand) (t : TypeId)
    (ho : o.op = .call { callee := .builtin .append, args := #[s, x], argTypes := #[t, t] })
    (base : Nat) (e : TypeId) (i : TypeInfo) (z : Value) (size bytes : Nat) (ht : P.underlying t = some (.slice e)) (hi : P.info? e = some i) (hz : i.zero = some z)
    (hsize : i.size = size) (hby : i.bytes = bytes) (hzs : z.cells.size = size) (hsz : 0 < size)
    (v : Value) (n : Nat) (xs : List Value) (hs : a.eval s = v) (hown : w.ownsRow base e size v n xs)
    (vb : Value) (base' m : Nat) (news : List Value) (hx : a.eval x = vb) (hsrc : w.ownsRow base' e size vb m news) (h1 : ∀ u ∈ news, u.oneCell' = true)
    (h63 : n + m ≤ maxLen) (hbytes : (n + m) * bytes ≤ 140737488355328) (hbase : base ≤ w.heap.size)
    (h : ∀ v' w', w'.ownsRow base e size v' (n + m) (xs ++ news) → w.grownBy w' v.ownBlock → (v'.ownBlock = v.ownBlock ∨ v'.ownBlock = some w.heap.size) → K (a.put o.dst v') w') :
    if Region.wanted o (yielded ops a.tmps) = true then Oper.wp P o a w K Q else E := by
  have hw : Region.wanted o (yielded ops a.tmps) = true := by simp [Region.wanted, hgd]
  rw [if_pos hw]
  exact wp_append_row s x t ho base e i z size bytes ht hi hz hsize hby hzs hsz v n xs hs hown vb base' m news hx hsrc h1 h63 hbytes hbase h
theorem elC_list (L : List El) : ∀ u ∈ L.flatMap elC, u.oneCell' = true := list_one elC_one L
theorem info84' : (Tryd.prog.info? 84).map (fun i => (i.zero, i.size, i.bytes)) = some (some (.agg #[.int .i64 0, .int .i64 0, .int .i64 0, .string ⟨#[]⟩]), 4, 40) := by kernel_rfl
theorem own_empty {w : World} {base b : Nat} {e : TypeId} {K : Nat} (hb : base ≤ b) (h : w.heap[b]? = some (.cells #[] e (0, 0))) : w.ownsRow base e K (.slice (some ⟨b, 0, none⟩) 0 0) 0 [] :=
  ⟨by simp, .inr ⟨b, 0, #[], rfl, hb, h, Nat.le_refl _, Nat.zero_le _, by simp, by simp⟩⟩
set_option maxRecDepth 100000 in
set_option maxHeartbeats 1000000 in
theorem clone_el (L : List El) (a : Hd) (base : Nat) (w : World) (ho : w.ownsRow base 84 4 (hdV a) L.length (L.flatMap elC)) (hl : L.length ≤ 1000000) :
    Calls Tryd.prog 62 #[hdV a] w fun e w' => ∃ v, e = .returned v ∧ w'.ownsRow w.heap.size 84 4 v L.length (L.flatMap elC) ∧ Below w.heap.size w w' := by
  obtain ⟨i0, hi, hz0, hz1, hz2⟩ := info_parts info84'
  have qe : ∀ (w : World) (A : Option Addr) (n c : Nat), (binOp .eql 75 (.slice A n c) (.slice none 0 0)).run Tryd.prog w = .ok (.bool A.isNone) w := fun w A n c => Lib.run_eql_slice_nil w 75 84 A n c 0 0 Tryd.underlying75
  rcases a with _ | ⟨g, n, c⟩
  · have hL : L = [] := by
      rcases ho.2 with ⟨_, h0⟩ | ⟨g, cap, cur, e, _⟩
      · exact List.eq_nil_of_length_eq_zero h0
      · cases e
    subst hL
    unfold hdV
    clear ho
    go_enter Tryd.func62, Tryd.ntmps62
    go_wp2
    go_ret
    exact ⟨_, rfl, World.ownsRow_nil _ _ _ _, Below.refl _ _⟩
  · have HO := Lib.hid (ho.alloc (.cells #[] 84))
    have hn : n = L.length := by
      rcases ho.2 with ⟨e, _⟩ | ⟨g, cap, cur, e, _⟩
      · cases e
      · cases e; rfl
    subst hn
    have HE := Lib.hid (own_empty (w := w.alloc (.cells #[] 84)) (base := w.heap.size) (K := 4) (Nat.le_refl _) (heap_alloc_new w _))
    unfold hdV at HO ⊢
    clear ho
    go_enter Tryd.func62, Tryd.ntmps62
    go_wp2_with (at_builtin; refine wpList_append_row rfl _ _ 75 rfl w.heap.size 84 i0 _ 4 40 Tryd.underlying75 hi hz0 hz1 hz2 rfl (by decide) _ 0 [] rfl HE.out _ base L.length (L.flatMap elC) rfl HO.out (elC_list L) (by unfold maxLen; omega) (by omega) (by simp) ?_)
    intro v' w' hown hgrow
    have hb : Below w.heap.size w w' := ((Below.refl _ w).alloc (Nat.le_refl _) _).grown hgrow (by simp) (fun k hk => by
      have : k = w.heap.size := by simpa [Value.ownBlock] using hk.symm
      omega)
    have HOn := Lib.hid (show w'.ownsRow w.heap.size 84 4 v' L.length (L.flatMap elC) by simpa using hown)
    clear hown hgrow
    go_wp2
    go_ret
    exact ⟨_, rfl, HOn.out, hb⟩
end Go.Proofs.YtphapjbfaomblaaDoor
/- A row of the call's own, sorted by the library. -/
namespace Go.Proofs.YtphapjbfaomblaaDoor
open Go Go.RowKit Go.Sort Go.Shelf
theorem flatK_list {α : Type} [Inhabited α] (enc : α → List Value) (k : Nat) (hk : ∀ x, (enc x).length = k) (L : List α) : flatK enc k L.toArray = (L.flatMap enc).toArray := by
  refine Go.Sort.ext_get! (by simp [flatl enc k hk]) fun t ht => ?_
  have ht' : t < L.length * k := by simpa using ht
  have k0 : 0 < k := by
    rcases Nat.eq_zero_or_pos k with h | h
    · subst h; simp at ht'
    · exact h
  have hi : t / k < L.length := Nat.div_lt_of_lt_mul (by rw [Nat.mul_comm]; exact ht')
  have hm := Nat.mod_lt t k0
  have e : t / k * k + t % k = t := by rw [Nat.mul_comm]; exact Nat.div_add_mod t k
  have hL : L = L.take (t / k) ++ L[t / k] :: L.drop (t / k + 1) := by rw [← List.drop_eq_getElem_cons, List.take_append_drop]
  have h := flat_mid enc k hk (L.take (t / k)) (L.drop (t / k + 1)) L[t / k] (t % k) ((enc L[t / k])[t % k]'(by rw [hk]; exact hm)) (List.getElem?_eq_getElem _)
  rw [← hL, List.length_take, Nat.min_eq_left (Nat.le_of_lt hi), e] at h
  rw [get_flatK enc k _ t (by simpa using ht')]
  have hlt : t < (L.flatMap enc).length := by rw [flatl enc k hk]; exact ht'
  rw [List.getElem?_eq_getElem hlt] at h
  simp only [Option.some.injEq] at h
  rw [getElem!_pos (L.flatMap enc).toArray t (by simpa using hlt), getElem!_pos L.toArray (t / k) (by simpa using hi)]
  simp only [List.getElem_toArray]
  rw [h, getElem!_pos _ _ (by rw [hk]; exact hm)]
theorem heap_sortK {w : World} {g n : Nat} {os : Array Obj} {cur : Array Value} {e : TypeId} {fr : Nat × Nat} (F : Array Value) (hb : w.heap[g]? = some (.cells cur e fr)) :
    (grow (putRow id (Sort.ahead w n) g 0 F) os).heap[g]? = some (.cells (putCells id 0 F cur) e fr) := by
  have hg : g < w.heap.size := (Array.getElem?_eq_some_iff.1 hb).1
  rw [heap_grow_old _ _ (by simpa using hg)]
  simp [putRow, mapBlock, Sort.ahead, Array.getElem?_modify, hb, onCells]
theorem grown_sortK {w : World} {g n : Nat} {os : Array Obj} (F : Array Value) : w.grownBy (grow (putRow id (Sort.ahead w n) g 0 F) os) (some g) := by
  refine ⟨rfl, rfl, rfl, ?_, fun k hk hne => ?_⟩
  · simp
  · rw [heap_grow_old _ _ (by simp; omega)]
    have : g ≠ k := fun e => hne (by rw [e])
    simp [putRow, mapBlock, Sort.ahead, Array.getElem?_modify, this]
theorem put_list (xs ys R : List Value) (h : ys.length = xs.length) : putCells id 0 ys.toArray (xs ++ R).toArray = (ys ++ R).toArray := by
  apply Array.ext_getElem?
  intro j
  by_cases hj : j < ys.length
  · have : j < (xs ++ R).length := by simp; omega
    simp [putCells, hj, List.getElem?_append_left hj]
    rw [List.getElem?_eq_getElem this]; simp
  · simp [putCells, List.getElem?_append_right (show ys.length ≤ j by omega), List.getElem?_append_right (show xs.length ≤ j by omega), h]
    have hx : ¬ j < xs.length := by omega
    simp [hx]
/-- what comes of SortFunc's own words -/
theorem sorted_parts {α : Type} [Inhabited α] {lt : α → α → Bool} {d d' : Array α} (hp : PermIn 0 d.size d d') (hs : SortedIn lt 0 d.size d') : d'.toList.Perm d.toList ∧ d'.toList.Pairwise (fun a b => lt b a = false) := by
  obtain ⟨h1, _, h3⟩ := hp
  refine ⟨?_, ?_⟩
  · have e1 : d'.extract 0 d.size = d' := by rw [← h1]; simp
    have e2 : d.extract 0 d.size = d := by simp
    rw [e1, e2] at h3
    exact h3
  · rw [List.pairwise_iff_getElem]
    intro i j hi hj hij
    have hi' : i < d'.size := by simpa using hi
    have hj' : j < d'.size := by simpa using hj
    have h := hs i j (Nat.zero_le _) hij (by omega)
    rw [getElem!_pos d' i hi', getElem!_pos d' j hj'] at h
    rw [Array.getElem_toList, Array.getElem_toList]
    exact h
theorem sort_own {ρ : Ren} {α : Type} [Inhabited α] (L : SlLaysF0.n6 Tryd.prog ρ) (k : Nat) (aE : ∀ w, (isAgg (ρ.t 24)).run Tryd.prog w = .ok true w) (zE : ∀ w, (Go.sizeOf (ρ.t 24)).run Tryd.prog w = .ok k w) (enc : α → List Value) (hk : ∀ x, (enc x).length = k) (h1 : ∀ x, ∀ v ∈ enc x, v.oneCell' = true)
    (cf : α → α → Int) (hO : SWO (Go.Proofs.ltOf cf)) (g : Nat) (cb : Array Value) (eg : ∀ args w, (callFunc g args).run Tryd.prog w = .ok (.enter g args) w) (hcmp : ∀ x y W, Calls Tryd.prog g (#[.agg (enc x).toArray, .agg (enc y).toArray] ++ cb) W fun e W' => e = .returned (.int .i64 (cf x y)) ∧ Grows W W')
    (xs : List α) (v : Value) (e : TypeId) (base : Nat) (w : World) (ho : w.ownsRow base e k v xs.length (xs.flatMap enc)) (hsl : xs.length < 4611686018427387904) :
    Calls Tryd.prog (ρ.f 6) #[v, .func (.func g) #[] cb] w fun r w' => r = .returned (.tuple #[]) ∧ ∃ ys : List α, ys.Perm xs ∧ ys.Pairwise (fun a b => ¬ cf b a < 0) ∧ w'.ownsRow base e k v ys.length (ys.flatMap enc) ∧ w.grownBy w' v.ownBlock := by
  rcases ho.2 with ⟨rfl, h0⟩ | ⟨gb, cap, cur, rfl, hb, hg, hnc, hm, hs, ht⟩
  · have hx : xs = [] := List.eq_nil_of_length_eq_zero h0
    subst hx
    refine (AnyF.slices_SortFunc_none L none 0 _ w).mono ?_
    rintro r w' ⟨rfl, rfl⟩
    exact ⟨rfl, [], List.Perm.refl _, List.Pairwise.nil, ho, ⟨rfl, rfl, rfl, Nat.le_refl _, fun _ _ _ => rfl⟩⟩
  · have hgl : gb < w.heap.size := (Array.getElem?_eq_some_iff.1 hg).1
    have hH : HoldsK enc k w gb 0 xs.toArray := by
      unfold HoldsK
      rw [flatK_list enc k hk]
      intro j hj
      have hj' : j < (xs.flatMap enc).length := by simpa using hj
      have := own_cell ho j _ (List.getElem?_eq_getElem hj')
      rw [Nat.zero_add, getElem!_pos _ j (by simpa using hj')]
      simpa using this
    have hsz : xs.toArray.size < 4611686018427387904 := by
      simpa using hsl
    have hc : CmpLays Tryd.prog g cb enc k cf gb 0 xs.toArray.size w := fun m os dk _ x y => hcmp x y _
    have hS := AnyQ.slices_SortFunc L k aE zE enc hk h1 cf hO g cb gb 0 cap xs.toArray w eg hc hH hgl hsz
    rw [List.size_toArray] at hS
    refine hS.mono ?_
    rintro r w' ⟨rfl, d', n, os, hp, hs', rfl⟩
    obtain ⟨p1, p2⟩ := sorted_parts (d := xs.toArray) (by simpa using hp) (by simpa using hs')
    have hl : d'.toList.length = xs.length := p1.length_eq
    obtain ⟨R, hR⟩ : ∃ R, cur = (xs.flatMap enc ++ R).toArray := ⟨cur.toList.drop (xs.length * k), by rw [← ht, List.take_append_drop]⟩
    subst hR
    have hF : flatK enc k d' = (d'.toList.flatMap enc).toArray := by rw [← flatK_list enc k hk]
    refine ⟨rfl, d'.toList, p1, ?_, ?_, ?_⟩
    · refine p2.imp ?_
      intro a b h
      exact of_decide_eq_false h
    · unfold sortWorldK putRowK
      rw [hF, hl]
      have hlf : (d'.toList.flatMap enc).length = (xs.flatMap enc).length := by rw [flatl enc k hk, flatl enc k hk, hl]
      refine own_mk (R := R) ?_ hb hnc hm (by rw [heap_sortK _ hg, put_list _ _ _ hlf]) ?_
      · rw [flatl enc k hk, hl]
      · rw [List.length_append, hlf, ← List.length_append]; simpa using hs
    · unfold sortWorldK putRowK
      exact grown_sortK _
theorem id_swo : SWO (Go.Proofs.ltOf Id.cmp) where
  irrefl x := by
    rcases h : Go.Proofs.ltOf Id.cmp x x with _ | _
    · rfl
    · exact absurd ((icmp_id_neg x x).1 (of_decide_eq_true h)) (idSTO.irrefl x)
  trans x y z h1 h2 := by
    refine decide_eq_true ((icmp_id_neg x z).2 ?_)
    exact idSTO.trans _ _ _ ((icmp_id_neg x y).1 (of_decide_eq_true h1)) ((icmp_id_neg y z).1 (of_decide_eq_true h2))
  ntrans x y z h1 h2 := by
    have a1 := fun h => of_decide_eq_false h1 ((icmp_id_neg x y).2 h)
    have a2 := fun h => of_decide_eq_false h2 ((icmp_id_neg y z).2 h)
    refine decide_eq_false (fun h => ?_)
    have h := (icmp_id_neg x z).1 h
    rcases idSTO.total x y with t | t | t
    · exact a1 t
    · subst t; exact a2 h
    · exact a2 (idSTO.trans _ _ _ t h)
theorem swo_key {α β : Type} {cf : β → β → Int} (h : SWO (Go.Proofs.ltOf cf)) (f : α → β) : SWO (Go.Proofs.ltOf fun a b => cf (f a) (f b)) where
  irrefl x := h.irrefl (f x)
  trans x y z := h.trans (f x) (f y) (f z)
  ntrans x y z := h.ntrans (f x) (f y) (f z)
instance : Inhabited El := ⟨⟨zeroI, zeroI, ⟨#[]⟩⟩⟩
set_option maxHeartbeats 1000000 in
theorem elCmp_any (a b : El) (w : World) : Calls Tryd.prog 75 #[.agg (elC a).toArray, .agg (elC b).toArray] w fun e w' => e = .returned (.int .i64 (a.id.cmp b.id)) ∧ Grows w w' := by
  have H := Lib.hid (fun W => scmpId_any a.id b.id W)
  unfold idV at H
  unfold elC
  go_enter Tryd.func75, Tryd.ntmps75
  go_wp2_with fail
  refine (H.out _).mono ?_
  rintro e w1 ⟨rfl, hg⟩
  go_wp2
  go_ret
  exact ⟨rfl, (((Grows.refl w).alloc _).alloc _).trans hg⟩
theorem sortEl_own (xs : List El) (v : Value) (base : Nat) (w : World) (ho : w.ownsRow base 84 4 v xs.length (xs.flatMap elC)) (hsl : xs.length < 4611686018427387904) :
    Calls Tryd.prog 74 #[v, .func (.func 75) #[] #[]] w fun r w' => r = .returned (.tuple #[]) ∧ ∃ ys : List El, ys.Perm xs ∧ ys.Pairwise (fun a b => ¬ b.id.cmp a.id < 0) ∧ w'.ownsRow base 84 4 v ys.length (ys.flatMap elC) ∧ w.grownBy w' v.ownBlock :=
  sort_own Tryd.laysSlF06_f74 4 Tryd.isAgg84 Tryd.sizeOf84 elC (fun _ => rfl) elC_one (fun a b => a.id.cmp b.id) (swo_key id_swo El.id) 75 #[] (enters_of Tryd.func75 (by kernel_rfl) rfl) (fun x y W => elCmp_any x y W) xs v 84 base w ho hsl
end Go.Proofs.YtphapjbfaomblaaDoor
