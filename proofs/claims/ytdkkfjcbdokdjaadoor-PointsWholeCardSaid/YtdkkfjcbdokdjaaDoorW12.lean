/- The walk of the rows of parts in a text. -/
import Derived.Test.YtdkkfjcbdokdjaaDoorM3
import Derived.Test.YtdkkfjcbdokdjaaDoorW10
namespace Go.Proofs.YtdkkfjcbdokdjaaDoor
open Go.RowKit
theorem infoRow : (Tryd.prog.info? 56).map (fun i => (i.zero, i.size, i.bytes)) = some (some (.agg #[.int .i64 0, .int .i64 0, .int .i64 0, .int .i64 0]), 4, 32) := by kernel_rfl
theorem own_form {w : World} {base : Nat} {e : TypeId} {sz : Nat} {v : Value} {n : Nat} {xs : List Value} (h : w.ownsRow base e sz v n xs) (hn : 0 < n) :
    ∃ g cap, v = .slice (some ⟨g, 0, none⟩) n cap ∧ base ≤ g ∧ g < w.heap.size ∧ n ≤ cap ∧ cap ≤ maxLen := by
  rcases h.2 with ⟨_, h0⟩ | ⟨g, cap, cur, hv, hb, hg, h1, h2, _⟩
  · omega
  · exact ⟨g, cap, hv, hb, (Array.getElem?_eq_some_iff.1 hg).1, h1, h2⟩
theorem close_row {W : World} {base g cap f a x y : Nat} {R : List R4} (h : W.ownsRow base 56 4 (.slice (some ⟨g, 0, none⟩) (R.length + 1) cap) (R.length + 1) (cells4 (R ++ stRow (some (f, a))))) :
    ((W.setCell ⟨g, R.length * 4 + 2, none⟩ (.int .i64 (x : Nat))).setCell ⟨g, R.length * 4 + 3, none⟩ (.int .i64 (y : Nat))).ownsRow base 56 4 (.slice (some ⟨g, 0, none⟩) (R.length + 1) cap) (R.length + 1) (cells4 (R ++ [(f, a, x, y)])) := by
  have h1 := (h.stored (R.length * 4 + 2) (.int .i64 (x : Nat))).1
  have h2 := (h1.stored (R.length * 4 + 3) (.int .i64 (y : Nat))).1
  have e : ((cells4 (R ++ stRow (some (f, a)))).set (R.length * 4 + 2) (.int .i64 (x : Nat))).set (R.length * 4 + 3) (.int .i64 (y : Nat)) = cells4 (R ++ [(f, a, x, y)]) := by
    have hcl := cells4_length R
    have e1 : cells4 (R ++ stRow (some (f, a))) = cells4 R ++ cell4 (f, a, 0, 0) := by rw [cells4_append]; rfl
    have e2 : cells4 (R ++ [(f, a, x, y)]) = cells4 R ++ cell4 (f, a, x, y) := by rw [cells4_append, cells4_one]
    rw [e1, e2, List.set_append_right _ _ (by omega), List.set_append_right _ _ (by omega), hcl, Nat.add_sub_cancel_left, Nat.add_sub_cancel_left]
    rfl
  rw [e] at h2
  exact h2
theorem iter_setCell {w : World} {k pos : Nat} {s : ByteArray} (h : w.heap[k]? = some (.stringIter s pos)) {p : Addr} (hp : k ≠ p.block) (u : Value) : (w.setCell p u).heap[k]? = some (.stringIter s pos) :=
  (Below.heap_setCell w p u k hp).trans h
theorem cells_new (w : World) (cs : List Value) (t : TypeId) : ∀ j u, cs[j]? = some u → (w.alloc (.cells cs.toArray t)).cell? ((⟨w.heap.size, 0, none⟩ : Addr).add j) = some u := by
  intro j u hu
  have hadd : (⟨w.heap.size, 0, none⟩ : Addr).add j = ⟨w.heap.size, j, none⟩ := by unfold Addr.add; split <;> simp_all
  rw [hadd, cell_of_row _ _ j cs.toArray t (0, 0) (heap_alloc_new w _)]
  simpa using hu
def RowsRel (ps : List Bs) (w : World) (K : Nat) (vo vp va : Value) (wr : World) : Prop :=
  ∃ (k : Nat) (R : List R4) (st : Option (Nat × Nat)), k ≤ ps.length ∧ rowsOf ps = R ++ rowsGo (ps.drop k) (ps.take k).flatten.length k st ∧ (R ++ stRow st).length ≤ k ∧
    va = .int .i64 (k : Nat) ∧ vp = .bool st.isSome ∧ wr.heap[K]? = some (.stringIter (ofL ps.flatten) (ps.take k).flatten.length) ∧
    wr.ownsRow w.heap.size 56 4 vo (R ++ stRow st).length (cells4 (R ++ stRow st)) ∧ Below w.heap.size w wr
theorem rune_int (p : Bs) : (0 : Int) ≤ ((Lib.decodeL p).1 : Nat) ∧ (((Lib.decodeL p).1 : Nat) : Int) ≤ 2147483647 := by
  have := Lib.decodeL_rune p
  omega
set_option maxHeartbeats 1000000 in
theorem rows_any (ps : List Bs) (hps : AllP ps) (w : World) (hl : ps.flatten.length ≤ 1000000) :
    Calls Tryd.prog 39 #[.string (ofL ps.flatten)] w fun e w' => ∃ v, e = .returned v ∧ w'.ownsRow w.heap.size 56 4 v (rowsOf ps).length (cells4 (rowsOf ps)) ∧ Below w.heap.size w w' := by
  obtain ⟨i0, hi, hz0, hz1, hz2⟩ := info_parts infoRow
  have hkl := length_le_flatten ps hps
  go_enter Tryd.func39, Tryd.ntmps39
  go_wp2
  go_loopw [3, 4, 5] (fun vo vp va wr => RowsRel ps w (w.heap.size + 1) vo vp va wr) (fun _ _ _ wr => (ofL ps.flatten).size - wr.iterPos (w.heap.size + 1))
  case atStart =>
    refine ⟨0, [], none, Nat.zero_le _, rfl, Nat.le_refl _, rfl, rfl, ?_, ?_, ?_⟩
    · have := World.iter_heap (w.alloc (Obj.cells #[] 56)) (ofL ps.flatten) 0
      simpa using this
    · exact (World.ownsRow_made w #[] 0 (Nat.le_refl _) (Nat.zero_le _) rfl).alloc _
    · exact ((Below.refl _ _).alloc (Nat.le_refl _) _).alloc (by simp) _
  case round =>
    obtain ⟨k, R, st, hk, hro, hRk, rfl, rfl, hit, hown, hbw⟩ := hrel
    obtain ⟨K, hKK⟩ : ∃ K, w.heap.size + 1 = K := ⟨_, rfl⟩
    have hK : w.heap.size ≤ K := by omega
    rw [hKK] at hit ⊢
    obtain ⟨s, hs⟩ : ∃ s, ofL ps.flatten = s := ⟨_, rfl⟩
    rw [hs] at hit ⊢
    by_cases hlt : k < ps.length
    · have hp : isP ps[k] := hps _ (List.getElem_mem hlt)
      obtain ⟨n1, n2, n3⟩ := next_piece hp s (ps := ps.take k) (qs := ps.drop (k + 1)) (by rw [← hs]; congr 1; exact flat_split ps k hlt)
      have hnx := fun ty => Lib.run_next_any_at (P := Tryd.prog) wr K s _ ty hit n1
      rw [n2, n3] at hnx
      have hfl := flatten_take_succ ps k hlt
      have hdc := drop_cons ps k hlt
      rw [hdc] at hro
      obtain ⟨q, hq⟩ : ∃ q, ps[k] = q := ⟨_, rfl⟩
      rw [hq] at hnx hfl hp hro
      obtain ⟨c0, c1⟩ := rune_int q
      have CP := fun w => part_any _ w c0 c1
      have hpp : partB (((Lib.decodeL q).1 : Nat) : Int) = partP q := rfl
      rw [hpp] at CP
      obtain ⟨c, hc⟩ : ∃ c, (Lib.decodeL q).1 = c := ⟨_, rfl⟩
      rw [hc] at hnx CP
      obtain ⟨pos, hpos⟩ : ∃ pos, (ps.take k).flatten.length = pos := ⟨_, rfl⟩
      rw [hpos] at hnx hit n1 hro
      have hposl : pos ≤ 1000000 := by have := flatten_take_le ps k; omega
      have hit2 := Lib.iterAt_heap wr K s pos (pos + q.length) hit
      have hown2 := own_iterAt hown hit (pos + q.length)
      have hbw2 := below_iterAt hbw hK s (pos + q.length)
      have hq0 := hp.pos
      have HFL := Lib.hid (show (ps.take (k + 1)).flatten.length = pos + q.length by rw [hfl, List.length_append, hpos])
      have HIT := Lib.hid hit
      have HIT2 := Lib.hid hit2
      have HS := Lib.hid hs
      have HRO := Lib.hid hro
      have HRK := Lib.hid hRk
      cases hpq : partP q
      · rw [hpq] at CP
        have CP2 := Lib.hid CP
        have HPQ := Lib.hid hpq
        clear n2 n3 hq hc hpos hit2 hfl hs hown hbw hit hKK CP hpq hdc hro hpp hRk c0 c1
        rcases st with _ | ⟨f, a⟩
        · -- no part, no row is open
          have hown3 := hown2
          clear hown2
          go_wp2_with (go_at_call 32; refine (CP2.out _).mono ?_; rintro e w' ⟨rfl, rfl⟩)
          go_roundw
          case rel =>
            refine ⟨k + 1, R, none, by omega, ?_, by have := HRK.out; omega, by go_num, rfl, ?_, hown3, hbw2⟩
            · rw [HFL.out, HRO.out]; simp only [rowsGo, HPQ.out]; simp
            · rw [HFL.out, HS.out]; exact HIT2.out
          case measure => rw [iter_pos HIT2.out, iter_pos HIT.out]; omega
        · -- no part: the row that is open ends here
          have hnn : (R ++ stRow (some (f, a))).length = R.length + 1 := by simp [stRow]
          have hce : cells4 (R ++ stRow (some (f, a))) = cells4 R ++ cell4 (f, a, 0, 0) := by rw [cells4_append]; rfl
          rw [hnn] at hown2
          obtain ⟨g, cap, hv, hbg, hgl, hcap, hcm⟩ := own_form hown2 (by omega)
          unfold maxLen at hcm
          subst hv
          have d2 := hown2.cellAt (R.length * 4 + 2) (by omega)
          have d3 := hown2.cellAt (R.length * 4 + 3) (by omega)
          have f2 := hown2.frozenAt (R.length * 4 + 2)
          have f3 := hown2.frozenAt (R.length * 4 + 3)
          have hcl : (cells4 R).length = R.length * 4 := cells4_length R
          rw [hce, List.getElem?_append_right (by omega), hcl, Nat.add_sub_cancel_left] at d2 d3
          have d2' : (wr.iterAt K s (pos + q.length)).cell? ⟨g, R.length * 4 + 2, none⟩ = some (.int .i64 0) := d2
          have d3' : (wr.iterAt K s (pos + q.length)).cell? ⟨g, R.length * 4 + 3, none⟩ = some (.int .i64 0) := d3
          have hgk : g ≠ K := by intro e; subst e; exact own_ne_iter hown2 HIT2.out rfl
          have HO := Lib.hid hown2
          clear hnn hce d2 d3 hcl hown2
          go_wp2_with (go_at_call 32; refine (CP2.out _).mono ?_; rintro e w' ⟨rfl, rfl⟩)
          have hit4 := Lib.hid (iter_setCell (iter_setCell HIT2.out (p := ⟨g, R.length * 4 + 2, none⟩) (Ne.symm hgk) (.int .i64 (pos : Nat))) (p := ⟨g, R.length * 4 + 3, none⟩) (Ne.symm hgk) (.int .i64 (k : Nat)))
          have hbw4 := Lib.hid ((hbw2.setCell (p := ⟨g, R.length * 4 + 2, none⟩) hbg (.int .i64 (pos : Nat))).setCell (p := ⟨g, R.length * 4 + 3, none⟩) hbg (.int .i64 (k : Nat)))
          have ho4 := Lib.hid (close_row (x := pos) (y := k) HO.out)
          go_roundw
          case rel =>
            refine ⟨k + 1, R ++ [(f, a, pos, k)], none, by omega, ?_, by have := HRK.out; simp [stRow] at this ⊢; omega, by go_num, rfl, ?_, ?_, hbw4.out⟩
            · rw [HFL.out, HRO.out]; simp only [rowsGo, HPQ.out]; simp
            · rw [HFL.out, HS.out]; exact hit4.out
            · have := ho4.out; simpa [stRow] using this
          case measure => rw [iter_pos hit4.out, iter_pos HIT.out]; omega
      · rw [hpq] at CP
        have CP2 := Lib.hid CP
        have HPQ := Lib.hid hpq
        clear n2 n3 hq hc hpos hit2 hfl hs hown hbw hit hKK CP hpq hdc hro hpp hRk c0 c1
        rcases st with _ | ⟨f, a⟩
        · -- a part, no row is open: one begins
          have hR : (R ++ stRow none) = R := by simp [stRow]
          rw [hR] at hown2
          have hrl : R.length ≤ k := by have := HRK.out; rw [hR] at this; exact this
          clear hR
          go_wp2_with (first | (go_at_call 32; refine (CP2.out _).mono ?_; rintro e w' ⟨rfl, rfl⟩) | (at_builtin; refine wpList_append_own _ rfl _ _ 52 rfl w.heap.size 56 i0 (.agg #[.int .i64 0, .int .i64 0, .int .i64 0, .int .i64 0]) 4 32 Tryd.underlying52 hi hz0 hz1 hz2 rfl (by decide) _ _ _ rfl (hown2.alloc _) ⟨(wr.iterAt K s (pos + q.length)).heap.size, 0, none⟩ 1 1 (cell4 (pos, k, 0, 0)) rfl rfl ?c1 ?c2 ?c3 ?c4 ?c5 ?_))
          case c1 => exact cells_new _ (cell4 (pos, k, 0, 0)) _
          case c2 => exact fun u hu => cells4_one' [(pos, k, 0, 0)] u (by rw [cells4_one]; exact hu)
          case c3 => simp only [maxLen]; omega
          case c4 => omega
          case c5 => have := hbw2.size; simp; omega
          intro v' w2 hown' hgrow _
          have hit3 := grown_iter (alloc_iter HIT2.out _) hgrow (own_ne_iter hown2 HIT2.out)
          have hbw3 : Below w.heap.size w w2 := (hbw2.alloc hbw2.size _).grown hgrow (by have := hbw2.size; simp; omega) (fun k hk => (hown2.lt k hk).1)
          clear hgrow hown2 hbw2
          have H3 := Lib.hid hit3
          clear hit3
          go_wp2_with (go_at_call 32; refine (CP2.out _).mono ?_; rintro e w' ⟨rfl, rfl⟩)
          go_roundw
          case rel =>
            refine ⟨k + 1, R, some (pos, k), by omega, ?_, by simp [stRow]; omega, by go_num, rfl, ?_, ?_, hbw3⟩
            · rw [HFL.out, HRO.out]; simp only [rowsGo, HPQ.out]; simp
            · rw [HFL.out, HS.out]; exact H3.out
            · simp only [stRow, List.length_append, List.length_singleton]
              rw [cells4_append, cells4_one]
              exact hown'
          case measure => rw [iter_pos H3.out, iter_pos HIT.out]; omega
        · -- a part, the row is open
          have hown3 := hown2
          clear hown2
          go_wp2_with (go_at_call 32; refine (CP2.out _).mono ?_; rintro e w' ⟨rfl, rfl⟩)
          go_roundw
          case rel =>
            refine ⟨k + 1, R, some (f, a), by omega, ?_, by have := HRK.out; omega, by go_num, rfl, ?_, hown3, hbw2⟩
            · rw [HFL.out, HRO.out]; simp only [rowsGo, HPQ.out]; simp
            · rw [HFL.out, HS.out]; exact HIT2.out
          case measure => rw [iter_pos HIT2.out, iter_pos HIT.out]; omega
    · have hke : ps.take k = ps := List.take_of_length_le (by omega)
      have hsz : s.size = ps.flatten.length := by rw [← hs, ofL_size]
      have hn := fun ty => Lib.run_next_end_at (P := Tryd.prog) wr K s _ ty hit (by rw [hke, hsz]; omega)
      have hk2 : k = ps.length := by omega
      have hdr : ps.drop k = [] := List.drop_eq_nil_of_le (by omega)
      rw [hdr, hke] at hro
      have HSZ := Lib.hid hsz
      have HRO := Lib.hid hro
      have hszb : s.size ≤ 1000000 := by omega
      clear hke hs hit hsz hk2 hKK hdr hro
      rcases st with _ | ⟨f, a⟩
      · have hR : (R ++ stRow none) = R := by simp [stRow]
        rw [hR] at hown
        have HO := Lib.hid hown
        clear hR hown
        go_wp2
        go_ret
        exact ⟨_, rfl, by rw [HRO.out]; simpa [rowsGo] using HO.out, hbw⟩
      · have hnn : (R ++ stRow (some (f, a))).length = R.length + 1 := by simp [stRow]
        have hce : cells4 (R ++ stRow (some (f, a))) = cells4 R ++ cell4 (f, a, 0, 0) := by rw [cells4_append]; rfl
        rw [hnn] at hown hRk
        obtain ⟨g, cap, hv, hbg, hgl, hcap, hcm⟩ := own_form hown (by omega)
        unfold maxLen at hcm
        subst hv
        have d2 := hown.cellAt (R.length * 4 + 2) (by omega)
        have d3 := hown.cellAt (R.length * 4 + 3) (by omega)
        have f2 := hown.frozenAt (R.length * 4 + 2)
        have f3 := hown.frozenAt (R.length * 4 + 3)
        have hcl : (cells4 R).length = R.length * 4 := cells4_length R
        rw [hce, List.getElem?_append_right (by omega), hcl, Nat.add_sub_cancel_left] at d2 d3
        have d2' : wr.cell? ⟨g, R.length * 4 + 2, none⟩ = some (.int .i64 0) := d2
        have d3' : wr.cell? ⟨g, R.length * 4 + 3, none⟩ = some (.int .i64 0) := d3
        have ho4 := Lib.hid (close_row (x := s.size) (y := k) hown)
        clear hnn hce d2 d3 hcl hown
        go_wp2
        go_ret
        refine ⟨_, rfl, ?_, (hbw.setCell (p := ⟨g, R.length * 4 + 2, none⟩) hbg _).setCell (p := ⟨g, R.length * 4 + 3, none⟩) hbg _⟩
        have e : rowsOf ps = R ++ [(f, a, s.size, k)] := by rw [HRO.out]; simp only [rowsGo]; rw [HSZ.out]
        rw [e, List.length_append, List.length_singleton]
        exact ho4.out
end Go.Proofs.YtdkkfjcbdokdjaaDoor
