/- Texts of this seat, one behind the other: GD. -/
import Derived.Test.YtphapjbfaomblaaDoorZb5
import Derived.Test.YtphapjbfaomblaaDoorZb7
import Derived.Test.YtphapjbfaomblaaDoorZb15
import Derived.Maps.RangeWalk
import Derived.Deep.CutRange
import Derived.Deep.RegionHeld3
import Derived.Deep.AppendLies
import Derived.BigRegion
/- The program's gathered: the first of each name, by what it stands behind. -/
namespace Go.Proofs.YtphapjbfaomblaaDoor
open Go Go.RowKit Go.Maps
def GStart (w : World) (bm bh : Nat) (wx : World) : Prop :=
  wx.ownsMap Tryd.prog 26 (objElem hdV) bm 0 (.map []) ∧ wx.ownsMap Tryd.prog 26 (plainElem (H := HH) Tryd.prog 3) bh 1 ((DataW.map []).put (idK zeroI) (.lit (.int .i64 1))) ∧ bm ≠ bh ∧ w.heap.size ≤ bm ∧ w.heap.size ≤ bh ∧ Below w.heap.size w wx
def Box (W : World) (b : Nat) (x : Id) : Prop := W.heap[b]? = some (.cells #[.int .i64 x.s.T, .int .i64 x.s.R, .int .i64 x.I] 26 (0, 0))
theorem own_kind {S : Nat → Prop} {wr wr' : World} {base : Nat} {e : TypeId} {K n : Nat} {v : Value} {xs : List Value} (h : wr.ownsRow base e K v n xs) (t : Touch S wr wr') (hS : ∀ k cur fr, S k → wr.heap[k]? ≠ some (.cells cur e fr)) : wr'.ownsRow base e K v n xs :=
  own_touch h t (fun g hg hs => by
    rcases h.2 with ⟨rfl, _⟩ | ⟨g', cap, cur, rfl, _, hh, _⟩
    · cases hg
    · cases hg; exact hS g' cur _ hs hh)
theorem Box.kind {S : Nat → Prop} {wr wr' : World} {b : Nat} {x : Id} (h : Box wr b x) (t : Touch S wr wr') (hS : ∀ k cur fr, S k → wr.heap[k]? ≠ some (.cells cur 26 fr)) : Box wr' b x := block_touch h t (fun hs => hS _ _ _ hs h)
theorem set_third {w : World} {g : Nat} {a b c u : Value} {t : TypeId} {fr : Nat × Nat} (h : w.heap[g]? = some (.cells #[a, b, c] t fr)) : (w.setCell ⟨g, 2, none⟩ u).heap[g]? = some (.cells #[a, b, u] t fr) := by
  simp [World.setCell, Array.getElem?_modify, h]
theorem set3_heap {w : World} {g : Nat} {a b c v u z : Value} {t : TypeId} {fr : Nat × Nat} (h : w.heap[g]? = some (.cells #[a, b, c] t fr)) : (((w.setCell ⟨g, 0, none⟩ v).setCell ⟨g, 1, none⟩ u).setCell ⟨g, 2, none⟩ z).heap[g]? = some (.cells #[v, u, z] t fr) := by
  simp [World.setCell, Array.getElem?_modify, h]
theorem set3_other {w : World} {g k : Nat} {v u z : Value} (h : k ≠ g) : (((w.setCell ⟨g, 0, none⟩ v).setCell ⟨g, 1, none⟩ u).setCell ⟨g, 2, none⟩ z).heap[k]? = w.heap[k]? := by
  rw [Below.heap_setCell _ _ _ _ h, Below.heap_setCell _ _ _ _ h, Below.heap_setCell _ _ _ _ h]
theorem ranges_iter {H : Type} {P : Program} {k : TypeId} {E : Value → Option (DataW H × List MemPlace)} {w : World} {b r n cnt : Nat} {D : DataW H} {left : Lit → Bool} (h : w.ranges P k E b r n D left cnt) : ∃ since seen c0, w.heap[r]? = some (.mapIter (some b) since seen c0) := by
  obtain ⟨es, clock, since, seen, c0, _, _, _, _, h1, _⟩ := h
  exact ⟨_, _, _, h1⟩
def SrtEl (l : List El) : Prop := l.Pairwise (fun a b => ¬ b.id.cmp a.id < 0)
theorem MRows.nil_of {w : World} {base bm m : Nat} {D : DataW Hd} {hd : Id → Hd} {B : Id → List El} (h : MRows w base bm m D hd B) {x : Id} (hx : hd x = none) : B x = [] := by
  rcases (h.rows x).2 with ⟨_, h0⟩ | ⟨g, cap, cur, e, _⟩
  · exact List.eq_nil_of_length_eq_zero h0
  · rw [hx] at e; cases e
def GSort (B : Id → List El) (D : DataW Hd) (hd : Id → Hd) (bm r m : Nat) (w wr : World) : Prop :=
  ∃ (left : Lit → Bool) (cnt : Nat) (X : List Id) (S : Id → List El), wr.ranges Tryd.prog 26 (objElem hdV) bm r m D left cnt ∧ Come idK D left X ∧ MRows wr w.heap.size bm m D hd S ∧ (∀ x, (S x).Perm (B x)) ∧ (∀ x ∈ X, SrtEl (S x)) ∧ Below w.heap.size w wr
theorem own_walk_ne {W : World} {base : Nat} {e : TypeId} {K n g : Nat} {v : Value} {xs : List Value} {o : Obj} (h : W.ownsRow base e K v n xs) (ho : W.heap[g]? = some o) (hn : ∀ cur fr, o ≠ .cells cur e fr) : some g ≠ v.ownBlock := by
  intro hv
  rcases h.2 with ⟨rfl, _⟩ | ⟨g', cap, cur, rfl, _, hh, _⟩
  · cases hv
  · cases hv
    rw [ho] at hh
    exact hn _ _ (Option.some.inj hh)
def GLoop (R : List Rn) (w : World) (bm bh : Nat) (i : Value) (wr : World) : Prop :=
  ∃ k : Nat, k ≤ R.length ∧ i = .int .i64 k ∧ ∃ m m2 D D2 hd B, GM (flat (R.take k)) (flat (R.take k)) w wr bm bh m m2 D D2 hd B
def GIn (F0 : List El) (af el : Id) (ps : List (List UInt8)) (w : World) (bm bh b9 b10 : Nat) (vp i : Value) (wr : World) : Prop :=
  ∃ j : Nat, j ≤ ps.length ∧ i = .int .i64 j ∧ Box wr b9 (nthA af el j) ∧ Box wr b10 (nthI el j) ∧ wr.ownsRow w.heap.size 9 1 vp ps.length (ps.map str) ∧ ∃ m m2 D D2 hd B, GM (F0 ++ flatOf af el (ps.take j)) (F0 ++ flatOf af el (ps.take j)) w wr bm bh m m2 D D2 hd B
theorem flatR_take (R : List Rn) {k : Nat} (h : k < R.length) : flat (R.take (k + 1)) = flat (R.take k) ++ flatOf R[k].af R[k].el (pcs R[k].tx.data.toList) := by
  rw [List.take_succ_eq_append_getElem h, flat_snoc]
theorem flat_le (R : List Rn) (k : Nat) : (flat (R.take k)).length ≤ (flat R).length := by
  have : flat R = flat (R.take k) ++ flat (R.drop k) := by
    unfold flat
    rw [← List.flatMap_append, List.take_append_drop]
  rw [this, List.length_append]
  omega
theorem flatOf_take (af el : Id) (ps : List (List UInt8)) {j : Nat} (h : j < ps.length) : flatOf af el (ps.take (j + 1)) = flatOf af el (ps.take j) ++ [⟨nthI el j, nthA af el j, ofL ps[j]⟩] := by
  rw [List.take_succ_eq_append_getElem h, flatOf_snoc, List.length_take, Nat.min_eq_left (by omega)]
theorem info84 : (Tryd.prog.info? 84).map (fun i => (i.zero, i.size, i.bytes)) = some (some (.agg #[.int .i64 0, .int .i64 0, .int .i64 0, .string ⟨#[]⟩]), 4, 40) := by kernel_rfl
def GPost (R : List Rn) (w : World) (e : Ending) (w' : World) : Prop :=
  ∃ bm m D hd S, e = .returned (.map (some bm)) ∧ MRows w' w.heap.size bm m D hd S ∧ BehindOf Id.Lt El.id El.af (Counts (flat R)) S ∧ Below w.heap.size w w'
def TwoBoxes (W2 : World) (af el : Id) (a b : Value) (wx : World) : Prop :=
  ∃ b9 b10, a = .pointer (some ⟨b9, 0, none⟩) ∧ b = .pointer (some ⟨b10, 0, none⟩) ∧ b9 ≠ b10 ∧ W2.heap.size ≤ b9 ∧ W2.heap.size ≤ b10 ∧ Box wx b9 af ∧ Box wx b10 el ∧ Below W2.heap.size W2 wx
theorem two_boxes (W : World) (x y : Id) : Box ((W.alloc (.cells #[.int .i64 x.s.T, .int .i64 x.s.R, .int .i64 x.I] 26)).alloc (.cells #[.int .i64 y.s.T, .int .i64 y.s.R, .int .i64 y.I] 26)) W.heap.size x ∧
    Box ((W.alloc (.cells #[.int .i64 x.s.T, .int .i64 x.s.R, .int .i64 x.I] 26)).alloc (.cells #[.int .i64 y.s.T, .int .i64 y.s.R, .int .i64 y.I] 26)) (W.heap.size + 1) y := by
  refine ⟨(Below.heap_alloc _ _ _ (by simp)).trans (heap_alloc_new W _), ?_⟩
  have := heap_alloc_new (W.alloc (.cells #[.int .i64 x.s.T, .int .i64 x.s.R, .int .i64 x.I] 26)) (.cells #[.int .i64 y.s.T, .int .i64 y.s.R, .int .i64 y.I] 26)
  rw [World.size_alloc] at this
  exact this
set_option maxRecDepth 100000 in
set_option maxHeartbeats 8000000 in
theorem gathered_any (R : List Rn) (A : Option Addr) (n c B0 : Nat) (w : World) (hR : Rd w B0 7 (.slice A n c) n (R.flatMap rnC)) (hB : B0 ≤ w.heap.size) (hT : Tabs w) (hF : (flat R).length ≤ 100000) (htx : ∀ r ∈ R, r.tx.size ≤ 100000) :
    Calls Tryd.prog 61 #[.slice A n c] w (GPost R w) := by
  obtain ⟨_, hnc, hcm⟩ := hR.len
  unfold maxLen at hcm
  obtain rfl := len_of rnC 7 (fun _ => rfl) (by decide) hR.1
  have HR := Lib.hid hR
  have HT := Lib.hid hT
  have HTX := Lib.hid htx
  have HFL := Lib.hid hF
  clear hR hT htx hF
  obtain ⟨i0, hi, hz0, hz1, hz2⟩ := info_parts info84
  have hmm := @run_makeMap Tryd.prog
  go_enter Tryd.func61, Tryd.ntmps61
  go_upto_region 1 with (fail)
  go_cut [3, 4] from 15 to 18 (fun a b wx => ∃ bm bh, a = .map (some bm) ∧ b = .map (some bh) ∧ GStart w bm bh wx)
  case first =>
    have hup := fun (W : World) (b : Nat) (h : W.ownsMap Tryd.prog 26 (plainElem (H := HH) Tryd.prog 3) b 0 (.map [])) => h.update (Keyed.of_law law26) Tryd.underlying81 (by unfold maxLen; omega) (ok26.val zeroI) (plain3 1 (by decide))
    have m1 : (w.alloc (.map #[] 0)).drew.ownsMap Tryd.prog 26 (plainElem (H := HH) Tryd.prog 3) w.heap.size 0 (.map []) := (World.ownsMap_made w _ _ _).drew
    have m2 : ((w.alloc (.map #[] 0)).alloc (.map #[] 0)).drew.ownsMap Tryd.prog 26 (plainElem (H := HH) Tryd.prog 3) w.heap.size 0 (.map []) := ((World.ownsMap_made w _ _ _).alloc _).drew
    have m3 : ((w.alloc (.map #[] 0)).alloc (.map #[] 0)).drew.ownsMap Tryd.prog 26 (plainElem (H := HH) Tryd.prog 3) (w.heap.size + 1) 0 (.map []) := by
      have := World.ownsMap_made (H := HH) (w.alloc (.map #[] 0)) Tryd.prog 26 (plainElem Tryd.prog 3)
      rwa [World.size_alloc] at this
    have p2 : ((w.alloc (.map #[] 0)).alloc (.map #[] 0)).drew.ownsMap Tryd.prog 26 (objElem hdV) (w.heap.size + 1) 0 (.map []) := by
      have := World.ownsMap_made (H := Hd) (w.alloc (.map #[] 0)) Tryd.prog 26 (objElem hdV)
      rwa [World.size_alloc] at this
    have p3 : ((w.alloc (.map #[] 0)).alloc (.map #[] 0)).drew.ownsMap Tryd.prog 26 (objElem hdV) w.heap.size 0 (.map []) := ((World.ownsMap_made w _ _ _).alloc _).drew
    have b1 : Below w.heap.size w (w.alloc (.map #[] 0)).drew := ((Below.refl _ w).alloc (Nat.le_refl _) _).drew
    have b2 : Below w.heap.size w ((w.alloc (.map #[] 0)).alloc (.map #[] 0)).drew := (((Below.refl _ w).alloc (Nat.le_refl _) _).alloc (by simp) _).drew
    obtain ⟨u1, hu1, o1, g1⟩ := hup _ _ m1
    obtain ⟨u2, hu2, o2, g2⟩ := hup _ _ m2
    obtain ⟨u3, hu3, o3, g3⟩ := hup _ _ m3
    have r1 : GStart w u1.heap.size w.heap.size (u1.alloc (.map #[] 0)) := by
      have hs : w.heap.size < u1.heap.size := by have := g1.size; simp at this; omega
      exact ⟨World.ownsMap_made u1 _ _ _, o1.alloc _, by omega, by omega, Nat.le_refl _, (b1.grown g1 (by simp) (fun k hk => by cases hk; exact Nat.le_refl _)).alloc (by omega) _⟩
    have r2 : GStart w (w.heap.size + 1) w.heap.size u2 := ⟨p2.kept g2 (by simp), o2, by omega, by omega, Nat.le_refl _, b2.grown g2 (by simp; omega) (fun k hk => by cases hk; exact Nat.le_refl _)⟩
    have r3 : GStart w w.heap.size (w.heap.size + 1) u3 := ⟨p3.kept g3 (by simp), o3, by omega, Nat.le_refl _, by omega, b2.grown g3 (by simp; omega) (fun k hk => by cases hk; omega)⟩
    have R1 := Lib.hid r1
    have R2 := Lib.hid r2
    have R3 := Lib.hid r3
    have h0 : idV zeroI = .agg #[.int .i64 0, .int .i64 0, .int .i64 0] := rfl
    rw [h0] at hu1 hu2 hu3
    clear hup m1 m2 m3 p2 p3 b1 b2 o1 o2 o3 g1 g2 g3 r1 r2 r3 h0
    go_region
    all_goals (go_wp2_with fail; go_meet; first | exact ⟨_, _, rfl, rfl, R1.out⟩ | exact ⟨_, _, rfl, rfl, R2.out⟩ | exact ⟨_, _, rfl, rfl, R3.out⟩)
  case rest =>
    obtain ⟨bm, bh, rfl, rfl, hS1, hS2, hne, hlm, hlh, hbw⟩ := hcut
    have hstart : GM (flat (R.take 0)) (flat (R.take 0)) w wc bm bh 0 1 (.map []) ((DataW.map []).put (idK zeroI) (.lit (.int .i64 1))) (fun _ => none) (fun _ => []) :=
      { le := Nat.zero_le _, le2 := by omega,
        rows := { map := hS1, fm := FMap.start _, rows := fun x => World.ownsRow_nil _ _ _ _, apart := fun x y _ g hg => by simp [hdV, Value.ownBlock] at hg },
        gat := gathered_start, hm := hS2,
        ct := fun s => by
          have hI : IsMap (DataW.map ([] : List (Lit × DataW HH))) := ⟨_, rfl⟩
          by_cases hs : zeroI = s
          · subst hs
            rw [Maps.atKey_put_same hI (keyed26.key (key26 zeroI))]
            simp [had, flat]
          · rw [Maps.atKey_put_other (fun e' => hs (idK_inj e').symm)]
            simp [had, flat, DataW.atKey, Ne.symm hs],
        lo := ⟨hlm, hlh, hne⟩, bel := hbw }
    have HST := Lib.hid hstart
    clear hS1 hS2 hbw hstart hmm
    go_wp2
    go_loopw [21] (fun i wr => GLoop R w bm bh i wr) (fun i _ => R.length - (intOf i).toNat)
    case atStart => exact ⟨0, Nat.zero_le _, rfl, _, _, _, _, _, _, HST.out⟩
    case round =>
      clear HST
      obtain ⟨k, hk, rfl, m, m2, D, D2, hd, B, hG⟩ := hrel
      obtain ⟨wo, rfl⟩ : ∃ wo : World, wo = wr := ⟨_, rfl⟩
      by_cases hlt : k < R.length
      · obtain ⟨b, o, rfl, hBb, hcell⟩ := rd_at rnC 7 (fun _ => rfl) (by decide) HR.out hlt
        have hft := flatR_take R hlt
        have hfle := flat_le R (k + 1)
        have htxk := HTX.out R[k] (List.getElem_mem hlt)
        obtain ⟨r, hr⟩ : ∃ r, R[k] = r := ⟨_, rfl⟩
        rw [hr] at hcell hft htxk
        rw [hft, List.length_append, flatOf_len] at hfle
        have hfl := HFL.out
        obtain ⟨af, el, tx⟩ := r
        obtain ⟨F0, hF0⟩ : ∃ F0, flat (R.take k) = F0 := ⟨_, rfl⟩
        rw [hF0] at hG hft hfle
        dsimp only at hft hfle htxk
        obtain ⟨ps, hps⟩ : ∃ ps, pcs tx.data.toList = ps := ⟨_, rfl⟩
        have hsp := fun W hW => split_pcs tx W (by omega) hW
        rw [hps] at hft hfle hsp
        have HSP := Lib.hid hsp
        have HFT := Lib.hid hft
        have hF1 : F0.length + ps.length ≤ 100000 := by omega
        have hbl : b < w.heap.size := by omega
        have hbl2 : b < wo.heap.size := Nat.lt_of_lt_of_le hbl hG.bel.size
        have hcw : ∀ j u, (rnC ⟨af, el, tx⟩)[j]? = some u → wo.cell? ⟨b, o + k * 7 + j, none⟩ = some u := fun j u hu => (hG.bel.cell (p := ⟨b, o + k * 7 + j, none⟩) hbl).trans (hcell j u hu)
        have d0 : wo.cell? ⟨b, o + k * 7, none⟩ = some (.int .i64 af.s.T) := hcw 0 _ rfl
        have d1 : wo.cell? ⟨b, o + k * 7 + 1, none⟩ = some (.int .i64 af.s.R) := hcw 1 _ rfl
        have d2 : wo.cell? ⟨b, o + k * 7 + 2, none⟩ = some (.int .i64 af.I) := hcw 2 _ rfl
        have d3 : wo.cell? ⟨b, o + k * 7 + 3, none⟩ = some (.int .i64 el.s.T) := hcw 3 _ rfl
        have d4 : wo.cell? ⟨b, o + k * 7 + 4, none⟩ = some (.int .i64 el.s.R) := hcw 4 _ rfl
        have d5 : wo.cell? ⟨b, o + k * 7 + 5, none⟩ = some (.int .i64 el.I) := hcw 5 _ rfl
        have d6 : wo.cell? ⟨b, o + k * 7 + 6, none⟩ = some (.string tx) := hcw 6 _ rfl
        have i1 : (0 : Int) ≤ (k : Int) := by omega
        have i2 : (k : Int) < (R.length : Int) := by omega
        have HG := Lib.hid hG
        have HK := Lib.hid hk
        clear hcell hcw hr hft htxk hfle hfl hsp hps hG hk hF0
        go_wp2_with fail
        obtain ⟨W1, hW1⟩ : ∃ W, wo.alloc (.cells #[.int .i64 af.s.T, .int .i64 af.s.R, .int .i64 af.I, .int .i64 el.s.T, .int .i64 el.s.R, .int .i64 el.I, .string tx] 28) = W := ⟨_, rfl⟩
        have hb1 : Below wo.heap.size wo W1 := by rw [← hW1]; exact ((Below.refl _ wo).alloc (Nat.le_refl _) _)
        have hx6 : W1.heap[wo.heap.size]? = some (.cells #[.int .i64 af.s.T, .int .i64 af.s.R, .int .i64 af.I, .int .i64 el.s.T, .int .i64 el.s.R, .int .i64 el.I, .string tx] 28 (0, 0)) := by rw [← hW1]; exact heap_alloc_new wo _
        rw [hW1]
        obtain ⟨b6, hb6⟩ : ∃ x, wo.heap.size = x := ⟨_, rfl⟩
        have HW1 := Lib.hid (HG.out.bel.trans (hb1.mono HG.out.bel.size))
        have HB1 := Lib.hid hb1
        rw [hb6] at hx6 ⊢
        have hb6l := (Array.getElem?_eq_some_iff.1 hx6).1
        clear hW1 d0 d1 d2 d3 d4 d5 d6 hb1 hb6
        refine (HSP.out W1 (HT.out.below HW1.out)).mono ?_
        rintro e W2 ⟨vp, er, rfl, hp, hb2⟩
        obtain ⟨Ap, cp, rfl, hpc, hpm⟩ := (Rd.of_own hp).form
        have hx6' : W2.heap[b6]? = _ := (hb2.block b6 hb6l).trans hx6
        have hb6l2 := (Array.getElem?_eq_some_iff.1 hx6').1
        have e0 : W2.cell? ⟨b6, 0, none⟩ = some (.int .i64 af.s.T) := cell_of_row _ _ 0 _ _ _ hx6'
        have e1 : W2.cell? ⟨b6, 1, none⟩ = some (.int .i64 af.s.R) := cell_of_row _ _ 1 _ _ _ hx6'
        have e2 : W2.cell? ⟨b6, 2, none⟩ = some (.int .i64 af.I) := cell_of_row _ _ 2 _ _ _ hx6'
        have e3 : W2.cell? ⟨b6, 3, none⟩ = some (.int .i64 el.s.T) := cell_of_row _ _ 3 _ _ _ hx6'
        have e4 : W2.cell? ⟨b6, 4, none⟩ = some (.int .i64 el.s.R) := cell_of_row _ _ 4 _ _ _ hx6'
        have e5 : W2.cell? ⟨b6, 5, none⟩ = some (.int .i64 el.I) := cell_of_row _ _ 5 _ _ _ hx6'
        have HB2 := Lib.hid (HB1.out.trans (hb2.mono HB1.out.size))
        have hp0 : W2.ownsRow w.heap.size 9 1 (.slice Ap ps.length cp) ps.length (ps.map str) := ⟨hp.1, hp.2.imp id fun ⟨g, cap, cur, f1, hg, r⟩ => ⟨g, cap, cur, f1, Nat.le_trans HW1.out.size hg, r⟩⟩
        have HP := Lib.hid hp0
        have hws2 : w.heap.size ≤ W2.heap.size := Nat.le_trans HW1.out.size hb2.size
        clear hx6 hx6' hp hp0 hb2 hb6l HW1 HB1 HSP
        go_upto_region 6 with (fail)
        go_cut [9, 10] from 31 to 34 (fun xa xb wx => TwoBoxes W2 af el xa xb wx)
        case first =>
          have t1 := two_boxes W2 af el
          have t2 := two_boxes W2 el af
          have hq1 : TwoBoxes W2 af el (.pointer (some ⟨W2.heap.size, 0, none⟩)) (.pointer (some ⟨W2.heap.size + 1, 0, none⟩)) ((W2.alloc (.cells #[.int .i64 af.s.T, .int .i64 af.s.R, .int .i64 af.I] 26)).alloc (.cells #[.int .i64 el.s.T, .int .i64 el.s.R, .int .i64 el.I] 26)).drew := ⟨_, _, rfl, rfl, by omega, Nat.le_refl _, by omega, t1.1, t1.2, (((Below.refl _ W2).alloc (Nat.le_refl _) _).alloc (by simp) _).drew⟩
          have hq2 : TwoBoxes W2 af el (.pointer (some ⟨W2.heap.size + 1, 0, none⟩)) (.pointer (some ⟨W2.heap.size, 0, none⟩)) ((W2.alloc (.cells #[.int .i64 el.s.T, .int .i64 el.s.R, .int .i64 el.I] 26)).alloc (.cells #[.int .i64 af.s.T, .int .i64 af.s.R, .int .i64 af.I] 26)).drew := ⟨_, _, rfl, rfl, by omega, by omega, Nat.le_refl _, t2.2, t2.1, (((Below.refl _ W2).alloc (Nat.le_refl _) _).alloc (by simp) _).drew⟩
          have Q1 := Lib.hid hq1
          have Q2 := Lib.hid hq2
          clear t1 t2 hq1 hq2
          go_region
          all_goals (go_wp2_with fail; go_meet; first | exact Q1.out | exact Q2.out)
        case rest =>
          obtain ⟨b9, b10, rfl, rfl, hn9, h9, h10, hB9, hB10, hbc⟩ := hcut
          have hGc := HG.out.grow (HB2.out.trans (hbc.mono HB2.out.size))
          have hPc : wc.ownsRow w.heap.size 9 1 (.slice Ap ps.length cp) ps.length (ps.map str) := own_grows HP.out hbc
          have hw9 : w.heap.size ≤ b9 := by omega
          have hw10 : w.heap.size ≤ b10 := by omega
          have HGc := Lib.hid hGc
          have HPc := Lib.hid hPc
          have HB9 := Lib.hid hB9
          have HB10 := Lib.hid hB10
          clear hGc hPc hB9 hB10 hbc HP HB2 HG e0 e1 e2 e3 e4 e5 hb6l2 h9 h10 hws2 hbl hbl2
          go_wp2
          go_loopw [37] (fun i wr => GIn F0 af el ps w bm bh b9 b10 (.slice Ap ps.length cp) i wr) (fun i _ => ps.length - (intOf i).toNat)
          case atStart => exact ⟨0, Nat.zero_le _, rfl, HB9.out, HB10.out, HPc.out, _, _, _, _, _, _, by simpa [flatOf] using HGc.out⟩
          case round =>
            clear HGc HPc HB9 HB10
            obtain ⟨j, hj, rfl, hB9, hB10, hP, m, m2, D, D2, hd, B, hG⟩ := hrel
            obtain ⟨wi, rfl⟩ : ∃ wi : World, wi = wr := ⟨_, rfl⟩
            by_cases hjl : j < ps.length
            · obtain ⟨F, hF⟩ : ∃ F, F0 ++ flatOf af el (ps.take j) = F := ⟨_, rfl⟩
              have hFl : F.length ≤ 100000 := by rw [← hF, List.length_append, flatOf_len, List.length_take]; omega
              have hFT := flatOf_take af el ps hjl
              obtain ⟨y, hy⟩ : ∃ y, nthA af el j = y := ⟨_, rfl⟩
              obtain ⟨x, hx⟩ : ∃ x, nthI el j = x := ⟨_, rfl⟩
              obtain ⟨p, hp⟩ : ∃ p, ps[j] = p := ⟨_, rfl⟩
              have hFT2 : F0 ++ flatOf af el (ps.take (j + 1)) = F ++ [⟨x, y, ofL p⟩] := by rw [hFT, ← List.append_assoc, hF, hx, hy, hp]
              rw [hF] at hG
              rw [hy] at hB9
              rw [hx] at hB10
              have hXN : nthA af el (j + 1) = x ∧ nthI el (j + 1) = nextI x := ⟨hx, by rw [← hx]; rfl⟩
              have HXN := Lib.hid hXN
              have HFT2 := Lib.hid hFT2
              have HJ := Lib.hid hj
              obtain ⟨gp, op, hvp, hlp, hcp⟩ := (Rd.of_own hP).cells (show 0 < ps.length by omega)
              subst hvp
              have d0 : wi.cell? ⟨gp, op + j, none⟩ = some (str p) := hcp j (str p) (by rw [List.getElem?_map, List.getElem?_eq_getElem hjl, hp]; rfl)
              unfold str at d0
              have i1 : (0 : Int) ≤ (j : Int) := by omega
              have i2 : (j : Int) < (ps.length : Int) := by omega
              have hGd := hG.grow (Below.drew (Below.refl _ wi))
              have hct := hGd.count x
              obtain ⟨st, w1, w2, e2, e3, e4, hg, D3, hG2⟩ := hGd.tick ⟨x, y, ofL p⟩ (by omega)
              dsimp only at e2 e3 e4
              have hct2 := hG2.count x
              rw [had_snoc] at hct2
              dsimp only at hct2
              rw [if_pos rfl] at hct2
              have hhl := had_le F x
              obtain ⟨t, ht⟩ : ∃ t, had F x = t := ⟨_, rfl⟩
              rw [ht] at hct e2 e3 e4 hct2 hhl
              have hw : IntKind.i64.wrap ((t : Int) + 1) = (t : Int) + 1 := IntWalk.i64_in _ (by omega)
              have hct2 : (Instr.lookup 81 (.map (some bh)) (idV x) false).run Tryd.prog w2 = .ok (.int .i64 ((t : Int) + 1)) w2 := hct2
              have tk : Touch (fun k => k = bh) wi w2 := (Touch.drew (Touch.refl _ wi)).grown hg (fun k hk _ => by cases hk; rfl)
              obtain ⟨es, cl, hbhm, _⟩ := hGd.hm
              have hbhm : wi.heap[bh]? = some (.map es cl) := hbhm
              have kS : ∀ (ty : TypeId) k cur fr, k = bh → wi.heap[k]? ≠ some (.cells cur ty fr) := fun ty k cur fr hk h => by rw [hk, hbhm] at h; cases h
              have hB9' : Box w2 b9 y := hB9.kind tk (kS 26)
              have hB10' : Box w2 b10 x := hB10.kind tk (kS 26)
              have hP2 := own_kind hP tk (kS 9)
              have a0 : wi.drew.cell? ⟨b10, 0, none⟩ = some (.int .i64 x.s.T) := cell_of_row wi _ 0 _ _ _ hB10
              have a1 : wi.drew.cell? ⟨b10, 1, none⟩ = some (.int .i64 x.s.R) := cell_of_row wi _ 1 _ _ _ hB10
              have a2 : wi.drew.cell? ⟨b10, 2, none⟩ = some (.int .i64 x.I) := cell_of_row wi _ 2 _ _ _ hB10
              have c0 : w2.cell? ⟨b10, 0, none⟩ = some (.int .i64 x.s.T) := cell_of_row _ _ 0 _ _ _ hB10'
              have c1 : w2.cell? ⟨b10, 1, none⟩ = some (.int .i64 x.s.R) := cell_of_row _ _ 1 _ _ _ hB10'
              have c2 : w2.cell? ⟨b10, 2, none⟩ = some (.int .i64 x.I) := cell_of_row _ _ 2 _ _ _ hB10'
              have HG2 := Lib.hid hG2
              have HB9 := Lib.hid hB9'
              have HB10 := Lib.hid hB10'
              have HP2 := Lib.hid hP2
              have HT0 := Lib.hid ht
              unfold idV at hct hct2 e2 e3
              unfold goInt at e2 e4
              clear hj hB9 hB10 hP hG hF hFT hy hx hp hFT2 hXN hcp hlp hGd hg hG2 tk hbhm kS hB9' hB10' hP2 ht
              go_wp2
              go_region
              clear hct a0 a1 a2 e2 e3 e4 d0
              by_cases h0 : t = 0
              · have h0F : had F x = 0 := HT0.out.trans h0
                subst h0
                have hct3 : (Instr.lookup 81 (.map (some bh)) (.agg #[.int .i64 x.s.T, .int .i64 x.s.R, .int .i64 x.I]) false).run Tryd.prog w2 = .ok (.int .i64 1) w2 := hct2
                have hWb := HG2.out.grow ((Below.refl _ w2).alloc (Nat.le_refl _) (.cells #[.int .i64 x.s.T, .int .i64 x.s.R, .int .i64 x.I, .string (ofL p)] 84))
                obtain ⟨st', v1, o1, f1, f2, f3, f4, f5⟩ := hWb.rows.entry (by have := HG2.out.le; unfold maxLen; omega) y
                have hb9 := HB9.out
                have b90 : w2.cell? ⟨b9, 0, none⟩ = some (.int .i64 y.s.T) := cell_of_row _ _ 0 _ _ _ hb9
                have b91 : w2.cell? ⟨b9, 1, none⟩ = some (.int .i64 y.s.R) := cell_of_row _ _ 1 _ _ _ hb9
                have b92 : w2.cell? ⟨b9, 2, none⟩ = some (.int .i64 y.I) := cell_of_row _ _ 2 _ _ _ hb9
                have hbmw : bm < w2.heap.size := HG2.out.rows.map.lt
                have hrow : v1.ownsRow w.heap.size 84 4 (hdV (hd y)) (B y).length ((B y).flatMap elC) := (hWb.rows.rows y).kept f2 (by
                  cases hv : (hdV (hd y)).ownBlock with
                  | none => exact .inl rfl
                  | some g => exact .inr (fun e => hWb.rows.ne hv (by cases e; rfl)))
                have hnb : v1.heap[w2.heap.size]? = some (.cells #[.int .i64 x.s.T, .int .i64 x.s.R, .int .i64 x.I, .string (ofL p)] 84 (0, 0)) := (f2.block w2.heap.size (by simp) (by simp; omega)).trans (heap_alloc_new w2 _)
                have hnews := World.news_of_block hnb
                have hBl : (B y).length ≤ 100000 := Nat.le_trans (gathered_le HG2.out.gat y) hFl
                have hv1s : w2.heap.size + 1 ≤ v1.heap.size := by have := f2.size; simpa using this
                have hwv : w.heap.size ≤ v1.heap.size := by have := HG2.out.bel.size; omega
                have HWb := Lib.hid hWb
                have HF5 := Lib.hid f5
                have HF2 := Lib.hid f2
                have HF3 := Lib.hid f3
                have HROW := Lib.hid hrow
                have HNEWS := Lib.hid hnews
                unfold idV at f1
                unfold goInt at f1
                clear hct2 hWb f5 f2 f3 f4 hb9 hrow hnb hnews
                go_wp2_with (at_builtin; refine wpList_append_lies _ rfl _ _ 75 rfl w.heap.size 84 i0 _ 4 40 Tryd.underlying75 hi hz0 hz1 hz2 rfl (by decide) (hdV (hd y)) (B y).length ((B y).flatMap elC) rfl HROW.out ⟨w2.heap.size, 0, none⟩ 1 1 [.int .i64 x.s.T, .int .i64 x.s.R, .int .i64 x.I, .string (ofL p)] rfl rfl HNEWS.out (by simp [Value.oneCell']) (by omega) (by unfold maxLen; omega) (by omega) hwv _ rfl ?_)
                intro g cap W4 hown hgrow hat hgl
                have hbm4 : W4.heap[bm]? = some o1 := (hgrow.block bm (by omega) (fun e => HG2.out.rows.ne e.symm rfl)).trans HF3.out
                obtain ⟨u2, s1, s2, s3⟩ := HF5.out W4 (some (g, (B y).length + 1, cap)) hbm4
                have s1' : (Instr.entryStore 115 (.map (some bm)) (.int .i64 st') (.slice (some ⟨g, 0, none⟩) ((B y).length + 1) cap)).run Tryd.prog W4 = .ok () u2 := s1
                have t1 : Touch (fun k => k = bm ∨ (hdV (hd y)).ownBlock = some k) w2 W4 := (((Touch.refl _ w2).alloc (.cells #[.int .i64 x.s.T, .int .i64 x.s.R, .int .i64 x.I, .string (ofL p)] 84)).grown HF2.out (fun k hk _ => by cases hk; exact .inl rfl)).grown hgrow (fun k hk _ => .inr hk)
                obtain ⟨Dn, hdn, Bn, hgn⟩ := GM.new HG2.out h0F t1 (g := g) (cap := cap) hown (hat.imp id (fun h => by omega)) s2 s3
                have t2 : Touch (fun k => k = bm ∨ (hdV (hd y)).ownBlock = some k) w2 u2 := t1.grown s3 (fun k hk _ => by cases hk; exact .inl rfl)
                have hkk : ∀ (ty : TypeId), ty ≠ 84 → ∀ k cur fr, k = bm ∨ (hdV (hd y)).ownBlock = some k → w2.heap[k]? ≠ some (.cells cur ty fr) := fun ty hty k cur fr hk h => by
                  rcases hk with rfl | hk
                  · obtain ⟨es', c', h'⟩ := HG2.out.rows.isMap
                    rw [h] at h'
                    cases h'
                  · obtain ⟨c', h'⟩ := HG2.out.rows.cells hk
                    rw [h] at h'
                    cases h'
                    exact hty rfl
                have HB9u := Lib.hid (HB9.out.kind t2 (hkk 26 (by decide)))
                have HB10u := Lib.hid (HB10.out.kind t2 (hkk 26 (by decide)))
                have HPu := Lib.hid (own_kind HP2.out t2 (hkk 9 (by decide)))
                have HGu := Lib.hid (show ∃ m m2 D D2 hd B, GM (F ++ [⟨x, y, ofL p⟩]) (F ++ [⟨x, y, ofL p⟩]) w u2 bm bh m m2 D D2 hd B from ⟨_, _, Dn, _, hdn, Bn, hgn⟩)
                clear hown hgrow hat hgl hbm4 s1 s2 s3 t1 t2 hgn hkk f1 hct3 b90 b91 b92 c0 c1 c2
                have hb9 := HB9u.out
                have hb10 := HB10u.out
                have y0 : u2.cell? ⟨b9, 0, none⟩ = some (.int .i64 y.s.T) := cell_of_row _ _ 0 _ _ _ hb9
                have y1 : u2.cell? ⟨b9, 1, none⟩ = some (.int .i64 y.s.R) := cell_of_row _ _ 1 _ _ _ hb9
                have y2 : u2.cell? ⟨b9, 2, none⟩ = some (.int .i64 y.I) := cell_of_row _ _ 2 _ _ _ hb9
                have x0 : u2.cell? ⟨b10, 0, none⟩ = some (.int .i64 x.s.T) := cell_of_row _ _ 0 _ _ _ hb10
                have x1 : u2.cell? ⟨b10, 1, none⟩ = some (.int .i64 x.s.R) := cell_of_row _ _ 1 _ _ _ hb10
                have x2 : u2.cell? ⟨b10, 2, none⟩ = some (.int .i64 x.I) := cell_of_row _ _ 2 _ _ _ hb10
                have z9 : ∀ i, u2.frozen? ⟨b9, i, none⟩ = false := fun i => by simp [World.frozen?, show u2.heap[b9]? = _ from hb9]
                have hs10 : (((u2.setCell ⟨b9, 0, none⟩ (.int .i64 x.s.T)).setCell ⟨b9, 1, none⟩ (.int .i64 x.s.R)).setCell ⟨b9, 2, none⟩ (.int .i64 x.I)).heap[b10]? = some (.cells #[.int .i64 x.s.T, .int .i64 x.s.R, .int .i64 x.I] 26 (0, 0)) := (set3_other (Ne.symm hn9)).trans hb10
                have q2 : (((u2.setCell ⟨b9, 0, none⟩ (.int .i64 x.s.T)).setCell ⟨b9, 1, none⟩ (.int .i64 x.s.R)).setCell ⟨b9, 2, none⟩ (.int .i64 x.I)).cell? ⟨b10, 2, none⟩ = some (.int .i64 x.I) := cell_of_row _ _ 2 _ _ _ hs10
                have q2f : (((u2.setCell ⟨b9, 0, none⟩ (.int .i64 x.s.T)).setCell ⟨b9, 1, none⟩ (.int .i64 x.s.R)).setCell ⟨b9, 2, none⟩ (.int .i64 x.I)).frozen? ⟨b10, 2, none⟩ = false := by simp only [World.frozen?, hs10]; simp
                have hs9 : (((u2.setCell ⟨b9, 0, none⟩ (.int .i64 x.s.T)).setCell ⟨b9, 1, none⟩ (.int .i64 x.s.R)).setCell ⟨b9, 2, none⟩ (.int .i64 x.I)).heap[b9]? = some (.cells #[.int .i64 x.s.T, .int .i64 x.s.R, .int .i64 x.I] 26 (0, 0)) := set3_heap hb9
                have hx9 : Box ((((u2.setCell ⟨b9, 0, none⟩ (.int .i64 x.s.T)).setCell ⟨b9, 1, none⟩ (.int .i64 x.s.R)).setCell ⟨b9, 2, none⟩ (.int .i64 x.I)).setCell ⟨b10, 2, none⟩ (.int .i64 (nextI x).I)) b9 x := (Below.heap_setCell _ _ _ _ hn9).trans hs9
                have hx10 : Box ((((u2.setCell ⟨b9, 0, none⟩ (.int .i64 x.s.T)).setCell ⟨b9, 1, none⟩ (.int .i64 x.s.R)).setCell ⟨b9, 2, none⟩ (.int .i64 x.I)).setCell ⟨b10, 2, none⟩ (.int .i64 (nextI x).I)) b10 (nextI x) := set_third hs10
                have tk : Touch (fun k => k = b9 ∨ k = b10) u2 ((((u2.setCell ⟨b9, 0, none⟩ (.int .i64 x.s.T)).setCell ⟨b9, 1, none⟩ (.int .i64 x.s.R)).setCell ⟨b9, 2, none⟩ (.int .i64 x.I)).setCell ⟨b10, 2, none⟩ (.int .i64 (nextI x).I)) := ((((Touch.refl _ u2).setCell (p := ⟨b9, 0, none⟩) (fun _ => .inl rfl) _).setCell (p := ⟨b9, 1, none⟩) (fun _ => .inl rfl) _).setCell (p := ⟨b9, 2, none⟩) (fun _ => .inl rfl) _).setCell (p := ⟨b10, 2, none⟩) (fun _ => .inr rfl) _
                have hkc : ∀ k, k = b9 ∨ k = b10 → w.heap.size ≤ k ∧ ∃ cur, u2.heap[k]? = some (.cells cur 26 (0, 0)) := fun k hk => by
                  rcases hk with rfl | rfl
                  · exact ⟨hw9, _, hb9⟩
                  · exact ⟨hw10, _, hb10⟩
                have hPf := own_kind HPu.out tk (fun k cur fr hk h => by obtain ⟨_, c', h'⟩ := hkc k hk; rw [h] at h'; cases h')
                obtain ⟨m', m2', D', D2', hd', B', hGu⟩ := HGu.out
                have hGf := hGu.keep tk (fun k hk => ⟨(hkc k hk).1, by obtain ⟨_, c', h'⟩ := hkc k hk; exact ⟨_, _, _, h', by decide⟩⟩)
                have hwn := wrap_next x
                have HXf9 := Lib.hid hx9
                have HXf10 := Lib.hid hx10
                have HPf := Lib.hid hPf
                have HGf := Lib.hid hGf
                clear hb9 hb10 hs10 hs9 hx9 hx10 tk hkc hPf hGu hGf HGu HB9u HB10u HPu
                go_wp2
                go_roundw
                case rel => exact ⟨j + 1, by have := HJ.out; omega, by go_num, by rw [HXN.out.1]; exact HXf9.out, by rw [HXN.out.2]; exact HXf10.out, HPf.out, m', m2', D', D2', hd', B', by rw [HFT2.out]; exact HGf.out⟩
                case measure => simp [intOf]; omega
              · have h0F : had F x ≠ 0 := fun h => h0 (HT0.out.symm.trans h)
                have hct3 : ((t : Int) + 1 == 1) = false := by simp; omega
                have HB9u := HB9
                have HB10u := HB10
                have HPu := HP2
                have HGu := Lib.hid (show ∃ m m2 D D2 hd B, GM (F ++ [⟨x, y, ofL p⟩]) (F ++ [⟨x, y, ofL p⟩]) w w2 bm bh m m2 D D2 hd B from ⟨_, _, _, _, _, _, GM.seen HG2.out h0F⟩)
                clear h0F
                have hb9 := HB9u.out
                have hb10 := HB10u.out
                have y0 : w2.cell? ⟨b9, 0, none⟩ = some (.int .i64 y.s.T) := cell_of_row _ _ 0 _ _ _ hb9
                have y1 : w2.cell? ⟨b9, 1, none⟩ = some (.int .i64 y.s.R) := cell_of_row _ _ 1 _ _ _ hb9
                have y2 : w2.cell? ⟨b9, 2, none⟩ = some (.int .i64 y.I) := cell_of_row _ _ 2 _ _ _ hb9
                have x0 : w2.cell? ⟨b10, 0, none⟩ = some (.int .i64 x.s.T) := cell_of_row _ _ 0 _ _ _ hb10
                have x1 : w2.cell? ⟨b10, 1, none⟩ = some (.int .i64 x.s.R) := cell_of_row _ _ 1 _ _ _ hb10
                have x2 : w2.cell? ⟨b10, 2, none⟩ = some (.int .i64 x.I) := cell_of_row _ _ 2 _ _ _ hb10
                have z9 : ∀ i, w2.frozen? ⟨b9, i, none⟩ = false := fun i => by simp [World.frozen?, show w2.heap[b9]? = _ from hb9]
                have hs10 : (((w2.setCell ⟨b9, 0, none⟩ (.int .i64 x.s.T)).setCell ⟨b9, 1, none⟩ (.int .i64 x.s.R)).setCell ⟨b9, 2, none⟩ (.int .i64 x.I)).heap[b10]? = some (.cells #[.int .i64 x.s.T, .int .i64 x.s.R, .int .i64 x.I] 26 (0, 0)) := (set3_other (Ne.symm hn9)).trans hb10
                have q2 : (((w2.setCell ⟨b9, 0, none⟩ (.int .i64 x.s.T)).setCell ⟨b9, 1, none⟩ (.int .i64 x.s.R)).setCell ⟨b9, 2, none⟩ (.int .i64 x.I)).cell? ⟨b10, 2, none⟩ = some (.int .i64 x.I) := cell_of_row _ _ 2 _ _ _ hs10
                have q2f : (((w2.setCell ⟨b9, 0, none⟩ (.int .i64 x.s.T)).setCell ⟨b9, 1, none⟩ (.int .i64 x.s.R)).setCell ⟨b9, 2, none⟩ (.int .i64 x.I)).frozen? ⟨b10, 2, none⟩ = false := by simp only [World.frozen?, hs10]; simp
                have hs9 : (((w2.setCell ⟨b9, 0, none⟩ (.int .i64 x.s.T)).setCell ⟨b9, 1, none⟩ (.int .i64 x.s.R)).setCell ⟨b9, 2, none⟩ (.int .i64 x.I)).heap[b9]? = some (.cells #[.int .i64 x.s.T, .int .i64 x.s.R, .int .i64 x.I] 26 (0, 0)) := set3_heap hb9
                have hx9 : Box ((((w2.setCell ⟨b9, 0, none⟩ (.int .i64 x.s.T)).setCell ⟨b9, 1, none⟩ (.int .i64 x.s.R)).setCell ⟨b9, 2, none⟩ (.int .i64 x.I)).setCell ⟨b10, 2, none⟩ (.int .i64 (nextI x).I)) b9 x := (Below.heap_setCell _ _ _ _ hn9).trans hs9
                have hx10 : Box ((((w2.setCell ⟨b9, 0, none⟩ (.int .i64 x.s.T)).setCell ⟨b9, 1, none⟩ (.int .i64 x.s.R)).setCell ⟨b9, 2, none⟩ (.int .i64 x.I)).setCell ⟨b10, 2, none⟩ (.int .i64 (nextI x).I)) b10 (nextI x) := set_third hs10
                have tk : Touch (fun k => k = b9 ∨ k = b10) w2 ((((w2.setCell ⟨b9, 0, none⟩ (.int .i64 x.s.T)).setCell ⟨b9, 1, none⟩ (.int .i64 x.s.R)).setCell ⟨b9, 2, none⟩ (.int .i64 x.I)).setCell ⟨b10, 2, none⟩ (.int .i64 (nextI x).I)) := ((((Touch.refl _ w2).setCell (p := ⟨b9, 0, none⟩) (fun _ => .inl rfl) _).setCell (p := ⟨b9, 1, none⟩) (fun _ => .inl rfl) _).setCell (p := ⟨b9, 2, none⟩) (fun _ => .inl rfl) _).setCell (p := ⟨b10, 2, none⟩) (fun _ => .inr rfl) _
                have hkc : ∀ k, k = b9 ∨ k = b10 → w.heap.size ≤ k ∧ ∃ cur, w2.heap[k]? = some (.cells cur 26 (0, 0)) := fun k hk => by
                  rcases hk with rfl | rfl
                  · exact ⟨hw9, _, hb9⟩
                  · exact ⟨hw10, _, hb10⟩
                have hPf := own_kind HPu.out tk (fun k cur fr hk h => by obtain ⟨_, c', h'⟩ := hkc k hk; rw [h] at h'; cases h')
                obtain ⟨m', m2', D', D2', hd', B', hGu⟩ := HGu.out
                have hGf := hGu.keep tk (fun k hk => ⟨(hkc k hk).1, by obtain ⟨_, c', h'⟩ := hkc k hk; exact ⟨_, _, _, h', by decide⟩⟩)
                have hwn := wrap_next x
                have HXf9 := Lib.hid hx9
                have HXf10 := Lib.hid hx10
                have HPf := Lib.hid hPf
                have HGf := Lib.hid hGf
                clear hb9 hb10 hs10 hs9 hx9 hx10 tk hkc hPf hGu hGf HGu HB9u HB10u HPu
                go_wp2
                go_roundw
                case rel => exact ⟨j + 1, by have := HJ.out; omega, by go_num, by rw [HXN.out.1]; exact HXf9.out, by rw [HXN.out.2]; exact HXf10.out, HPf.out, m', m2', D', D2', hd', B', by rw [HFT2.out]; exact HGf.out⟩
                case measure => simp [intOf]; omega
            · have hjl2 : j = ps.length := by omega
              subst hjl2
              have hfe : ps.take ps.length = ps := List.take_length
              rw [hfe] at hG
              have HGe := Lib.hid (show ∃ m m2 D D2 hd B, GM (flat (R.take (k + 1))) (flat (R.take (k + 1))) w wi bm bh m m2 D D2 hd B from ⟨_, _, _, _, _, _, by rw [HFT.out]; exact hG⟩)
              clear hG hP hB9 hB10 hfe hj
              go_wp2
              go_roundw
              case rel => exact ⟨k + 1, by omega, by go_num, HGe.out⟩
              case measure => simp [intOf]; omega
      · obtain rfl : k = R.length := by omega
        rw [List.take_length] at hG
        have HGG := Lib.hid hG
        have hown := hG.rows.map
        clear hG hk
        obtain ⟨W3, hrun, hrg0, hg0, hs0⟩ := hown.range keyed26 Tryd.underlying115
        go_wp2
        have hb3 : Below w.heap.size w W3 := HGG.out.bel.grown hg0 HGG.out.bel.size (fun j hj => by cases hj)
        have hM3 : MRows W3 w.heap.size bm m D hd B := HGG.out.rows.touch (F := fun _ => False) (Touch.grown (Touch.refl _ _) hg0 (fun j hj _ => by cases hj)) (fun h => h) (fun _ _ _ h => h)
        obtain ⟨r, hr⟩ : ∃ r, wo.heap.size = r := ⟨_, rfl⟩
        have hrw : w.heap.size ≤ r := by have := HGG.out.bel.size; omega
        rw [hr] at hrg0 ⊢
        have HM3 := Lib.hid hM3
        have HB3 := Lib.hid hb3
        have HGat := Lib.hid HGG.out.gat
        have HFM := Lib.hid HGG.out.rows.fm
        have HLo := Lib.hid HGG.out.lo
        clear hg0 hs0 hown hr hrun hM3 hb3 HGG
        go_loopw [14] (fun _ wr => GSort B D hd bm r m w wr) (fun _ wr => wr.rangeLeft bm r)
        case atStart => exact ⟨_, _, [], B, hrg0, Come.start _ D, HM3.out, fun x => List.Perm.refl _, (fun x hx => by cases hx), HB3.out⟩
        case round =>
          clear hrg0 HM3 HB3
          obtain ⟨left, cnt, X, S, hrg, hC, hM, hP, hS, hb⟩ := hrel
          obtain ⟨wi, rfl⟩ : ∃ wi : World, wi = wr := ⟨_, rfl⟩
          have HM := Lib.hid hM
          have HC := Lib.hid hC
          have HP := Lib.hid hP
          have HS := Lib.hid hS
          have HRG := Lib.hid hrg
          have HB := Lib.hid hb
          clear hM hC hP hS hb
          go_wp2_with (at_next; refine wpList_next_ranges _ rfl _ rfl 26 keyed26 (objElem hdV) idV hdV (fun key kl hk => by obtain ⟨a, h, _⟩ := key26_inv hk; exact ⟨a, h⟩) (fun v y hv => by obtain ⟨a, h, _⟩ := objElem_inv hv; exact ⟨a, h⟩) bm r m _ _ _ rfl hrg ?_ ?_)
          · intro hc0 hl0
            have hall : ∀ x, SrtEl (S x) := fun x => by
              cases hx : hd x with
              | none => rw [HM.out.nil_of hx]; exact List.Pairwise.nil
              | some y =>
                refine HS.out x ((HC.out.2 x).2 ⟨?_, hl0 _⟩)
                rw [HFM.out.has, hdf, hx]
                rfl
            have HE := Lib.hid (show GPost R w (.returned (.map (some bm))) wi from ⟨bm, m, D, hd, S, rfl, HM.out, gathered_sorted HGat.out HP.out hall, HB.out⟩)
            clear hrg HRG hl0 hall
            go_wp2
            go_ret
            exact HE.out
          · intro x p kl y yp w2 cnt2 hkey hlk hv hat hrg2 hlt2 hg2 hs2 hen
            obtain ⟨x', e1, rfl⟩ := key26_inv hkey
            obtain rfl := idV_inj e1
            rw [objElem_mk hdV_inj] at hv
            cases hv
            have hfx : hd x = p := by
              have h1 := HFM.out x (.map [])
              rw [hat] at h1
              unfold hdf at h1
              cases e : hd x with
              | none => rw [e] at h1; cases h1
              | some q => rw [e] at h1; cases h1; rfl
            obtain ⟨ri1, ri2, ri3, hoi⟩ := ranges_iter hrg
            have hbmr : bm ≠ r := fun e => by
              obtain ⟨es, c, h1⟩ := HM.out.isMap
              rw [← e, h1] at hoi
              cases hoi
            have hM2 : MRows w2 w.heap.size bm m D hd S := HM.out.touch (F := fun k => k = r) (Touch.grown (Touch.refl _ _) hg2 (fun j hj _ => by cases hj; rfl)) hbmr (fun z g hz hg => by
              subst hg
              exact own_walk_ne (HM.out.rows z) hoi (fun _ _ h => by cases h) hz.symm)
            have hb2 : Below w.heap.size w w2 := HB.out.grown hg2 HB.out.size (fun j hj => by cases hj; exact hrw)
            have HC2 := Lib.hid (show Come idK D (fun z => left z && !z.sameKey (idK x)) (X ++ [x]) from HC.out.step ok26 hlk hat)
            have HM2 := Lib.hid hM2
            have HB2 := Lib.hid hb2
            have HRG2 := Lib.hid hrg2
            have HLT := Lib.hid hlt2
            have hso : Calls Tryd.prog 74 #[hdV p, .func (.func 75) #[] #[]] w2 (fun r w' => r = .returned (.tuple #[]) ∧ ∃ ys : List El, ys.Perm (S x) ∧ SrtEl ys ∧ w'.ownsRow w.heap.size 84 4 (hdV p) ys.length (ys.flatMap elC) ∧ w2.grownBy w' (hdV p).ownBlock) := sortEl_own (S x) (hdV p) w.heap.size w2 (hfx ▸ hM2.rows x) (by have := (HP.out x).length_eq; have := gathered_le HGat.out x; have := HFL.out; omega)
            have HSO := Lib.hid hso
            have HFX := Lib.hid hfx
            unfold idV at hen
            clear hkey hlk hat hrg2 hrg hg2 hs2 e1 hoi hbmr hM2 hb2 hso hfx hlt2
            go_wp2_with fail
            refine HSO.out.mono ?_
            rintro e w3 ⟨rfl, ys, hperm, hsrt, hown, hg3⟩
            have hrne : some bm ≠ (hdV p).ownBlock ∧ some r ≠ (hdV p).ownBlock := by
              have hrow := HM2.out.rows x
              rw [HFX.out] at hrow
              obtain ⟨es, c, h1⟩ := HM2.out.isMap
              obtain ⟨_, _, _, h2⟩ := ranges_iter HRG2.out
              exact ⟨own_walk_ne hrow h1 (fun _ _ h => by cases h), own_walk_ne hrow h2 (fun _ _ h => by cases h)⟩
            have HRG3 := Lib.hid (HRG2.out.kept hg3 hrne.1 hrne.2)
            have HB3 := Lib.hid (HB2.out.grown hg3 HB2.out.size (fun k hk => by
              have hrow := HM2.out.rows x
              rw [HFX.out] at hrow
              exact (hrow.lt k hk).1))
            have HM3 := Lib.hid (HM2.out.turn (x := x) (l := ys) (HFX.out.symm ▸ hg3) (HFX.out.symm ▸ hown))
            have HPn := Lib.hid (show ∀ y, (if y = x then ys else S y).Perm (B y) from fun y => by
              by_cases e : y = x
              · rw [if_pos e, e]; exact hperm.trans (HP.out x)
              · rw [if_neg e]; exact HP.out y)
            have HSn := Lib.hid (show ∀ y ∈ X ++ [x], SrtEl (if y = x then ys else S y) from fun y hy => by
              by_cases e : y = x
              · rw [if_pos e]; exact hsrt
              · rw [if_neg e]
                rcases List.mem_append.1 hy with hy | hy
                · exact HS.out y hy
                · rw [List.mem_singleton] at hy; exact absurd hy e)
            clear hperm hsrt hown hg3 hrne
            go_wp2
            go_roundw
            case rel => exact ⟨_, cnt2, X ++ [x], _, HRG3.out, HC2.out, HM3.out, HPn.out, HSn.out, HB3.out⟩
            case measure => rw [HRG3.out.left_eq, HRG.out.left_eq]; exact HLT.out
end Go.Proofs.YtphapjbfaomblaaDoor
