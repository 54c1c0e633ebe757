/- The walk of where a name is. -/
import Derived.Test.YtdkkfjcbdokdjaaDoorW13
import Derived.Deep.RegionHeld3
import Derived.Deep.AppendLies
import Derived.Deep.DrawnRows
namespace Go.Proofs.YtdkkfjcbdokdjaaDoor
open Go.RowKit
attribute [local go_sem ↓] Go.wp_at_zero Go.wp_at_succ
theorem infoInt : (Tryd.prog.info? 3).map (fun i => (i.zero, i.size, i.bytes)) = some (some (.int .i64 0), 1, 8) := by kernel_rfl
def nums (l : List Nat) : List Value := l.map fun x => .int .i64 (x : Nat)
def FindRel (L : List (Nat × Nat)) (rs : List R4) (w : World) (vr : Value) (vf vt vi : Value) (wr : World) : Prop :=
  ∃ (k : Nat), k ≤ L.length ∧ vi = .int .i64 (k : Nat) ∧ wr.ownsRow w.heap.size 56 4 vr L.length (cells4 rs) ∧
    wr.ownsRow w.heap.size 3 1 vf k (nums ((L.take k).map (·.1))) ∧ wr.ownsRow w.heap.size 3 1 vt k (nums ((L.take k).map (·.2))) ∧ Sep vf vt ∧ Sep vt vf ∧ Below w.heap.size w wr
theorem own_info {w : World} {B : Nat} {e : TypeId} {sz n : Nat} {v : Value} {xs : List Value} (h : w.ownsRow B e sz v n xs) {g : Nat} {cs : Array Value} {t : TypeId} {fr : Nat × Nat} (hg : w.heap[g]? = some (.cells cs t fr)) (ht : e ≠ t) : v.ownBlock ≠ some g := by
  rcases h.2 with ⟨rfl, _⟩ | ⟨g', cap, cur, rfl, _, hh, _⟩
  · simp [Value.ownBlock]
  · intro he
    have : g' = g := by simpa [Value.ownBlock] using he
    subst this
    rw [hh] at hg
    injection hg with hg
    injection hg with _ h2
    exact ht h2
theorem news_at {w : World} {b : Nat} {v : Value} {t : TypeId} (h : w.heap[b]? = some (.cells #[v] t (0, 0))) : ∀ j u, [v][j]? = some u → w.cell? ((⟨b, 0, none⟩ : Addr).add j) = some u := by
  intro j u hu
  have hadd : (⟨b, 0, none⟩ : Addr).add j = ⟨b, j, none⟩ := by unfold Addr.add; split <;> simp_all
  rw [hadd, cell_of_row _ _ j #[v] t (0, 0) h]
  simpa using hu
theorem heap_n1 (W : World) (o : Obj) : (W.alloc o).heap[W.heap.size]? = some o := heap_alloc_new W o
theorem heap_n1d (W : World) (o : Obj) : (W.alloc o).drew.heap[W.heap.size]? = some o := heap_alloc_new W o
theorem heap_n2d (W : World) (o1 o2 : Obj) : ((W.alloc o1).alloc o2).drew.heap[W.heap.size + 1]? = some o2 := by
  have := heap_alloc_new (W.alloc o1) o2
  rwa [alloc_size] at this
theorem heap_o2d (W : World) (o1 o2 : Obj) : ((W.alloc o1).alloc o2).drew.heap[W.heap.size]? = some o1 :=
  (Below.heap_alloc (W.alloc o1) o2 W.heap.size (by rw [alloc_size]; omega)).trans (heap_alloc_new W o1)
theorem own_ne_ge {w : World} {B : Nat} {e : TypeId} {sz n : Nat} {v : Value} {xs : List Value} (h : w.ownsRow B e sz v n xs) {k : Nat} (hk : w.heap.size ≤ k) : some k ≠ v.ownBlock := by
  intro e1
  have := (h.lt k e1.symm).2
  omega
theorem own_types {w : World} {B B' : Nat} {e e' : TypeId} {sz sz' n n' : Nat} {v u : Value} {xs ys : List Value} (h : w.ownsRow B e sz v n xs) (k : w.ownsRow B' e' sz' u n' ys) (hne : e ≠ e') : Sep v u := by
  rcases h.2 with ⟨rfl, _⟩ | ⟨g, cap, cur, rfl, _, hg, _⟩
  · exact .inl rfl
  · refine .inr (Ne.symm ?_)
    exact own_info k hg (Ne.symm hne)
theorem two_appends {W W1 w4 W2 w5 : World} {B k n m1 m2 g1 cap1 g2 cap2 : Nat} {u4 u5 vr : Value} {xs ys cs xs' ys' : List Value}
    (hF : W.ownsRow B 3 1 u4 k xs) (hT : W.ownsRow B 3 1 u5 k ys) (hR : W.ownsRow B 56 4 vr n cs) (hft : Sep u4 u5) (htf : Sep u5 u4) (hB : B ≤ W.heap.size)
    (hb1 : Below W.heap.size W W1) (hg1 : W1.grownBy w4 u4.ownBlock) (ho1 : w4.ownsRow B 3 1 (.slice (some ⟨g1, 0, none⟩) (k + 1) cap1) (k + 1) xs') (hat1 : u4.ownBlock = some g1 ∨ g1 = m1) (hm1 : W.heap.size ≤ m1) (hl1 : g1 < w4.heap.size)
    (hb2 : Below w4.heap.size w4 W2) (hg2 : W2.grownBy w5 u5.ownBlock) (ho2 : w5.ownsRow B 3 1 (.slice (some ⟨g2, 0, none⟩) (k + 1) cap2) (k + 1) ys') (hat2 : u5.ownBlock = some g2 ∨ g2 = m2) (hm2 : w4.heap.size ≤ m2) :
    w5.ownsRow B 56 4 vr n cs ∧ w5.ownsRow B 3 1 (.slice (some ⟨g1, 0, none⟩) (k + 1) cap1) (k + 1) xs' ∧ Sep (.slice (some ⟨g1, 0, none⟩) (k + 1) cap1) (.slice (some ⟨g2, 0, none⟩) (k + 1) cap2) ∧ Sep (.slice (some ⟨g2, 0, none⟩) (k + 1) cap2) (.slice (some ⟨g1, 0, none⟩) (k + 1) cap1) ∧ Below B W w5 := by
  have r1 := own_below hR hb1
  have f1 := own_below hF hb1
  have t1 := own_below hT hb1
  have r4 := r1.kept hg1 (own_types r1 f1 (by decide))
  have t4 := t1.kept hg1 htf
  have r2 := own_below r4 hb2
  have t2 := own_below t4 hb2
  have r5 := r2.kept hg2 (own_types r2 t2 (by decide))
  have sz1 := hb1.size
  have sz2 := hg1.size
  have sz3 := hb2.size
  have h1u5 : some g1 ≠ u5.ownBlock := by
    intro e
    rcases hat1 with h | h
    · rcases hft with h0 | h0
      · rw [h] at h0; cases h0
      · exact h0 (by rw [h, e])
    · have := (hT.lt g1 e.symm).2
      omega
  have o1 := (own_below ho1 hb2).kept (row := u5.ownBlock) hg2 (.inr h1u5)
  have h12 : g1 ≠ g2 := by
    intro e
    rcases hat2 with h | h
    · exact h1u5 (by rw [h, e])
    · omega
  refine ⟨r5, o1, .inr (fun e => h12 (by injection e)), .inr (fun e => h12 (by injection e with e; exact e.symm)), ?_⟩
  have q1 : Below B W w4 := (hb1.mono hB).grown hg1 (by omega) (fun k hk => (hF.lt k hk).1)
  have q2 : Below B W W2 := q1.trans (hb2.mono (by omega))
  exact q2.grown hg2 (by omega) (fun k hk => (hT.lt k hk).1)
set_option maxRecDepth 100000 in
set_option maxHeartbeats 3200000 in
theorem find_ok (ps : List Bs) (hps : AllP ps) (name : Bs) (hid : identL name = true) (w : World) (hl : ps.flatten.length ≤ 1000000) (hn : name.length ≤ 1000000) (hT : Tabs w) :
    Calls Tryd.prog 15 #[.string (ofL ps.flatten), .string (ofL name)] w fun e w' => ∃ v1 v2, e = .returned (.tuple #[v1, v2, .int .i64 0]) ∧
      w'.ownsRow w.heap.size 3 1 v1 (findOf ps name).length (nums ((findOf ps name).map (·.1))) ∧ w'.ownsRow w.heap.size 3 1 v2 (findOf ps name).length (nums ((findOf ps name).map (·.2))) ∧ Below w.heap.size w w' := by
  obtain ⟨i0, hi, hz0, hz1, hz2⟩ := info_parts infoInt
  have CF := Lib.hid (found_ok ps hps name hid w hl hn hT)
  have hrl := rising_len (((runs_rising ps).filter (fun r => word ps r == name))) (Nat.zero_le _)
  have hpl := length_le_flatten ps hps
  have hb1 : (findOf ps name).length ≤ 1000000 := by unfold findOf; omega
  obtain ⟨L, hL⟩ : ∃ L, findOf ps name = L := ⟨_, rfl⟩
  rw [hL] at CF hb1 ⊢
  obtain ⟨rs, hrs⟩ : ∃ rs, L.map (row4 ps) = rs := ⟨_, rfl⟩
  rw [hrs] at CF
  have HRS := Lib.hid hrs
  clear hrl hpl hid hL hrs
  go_enter Tryd.func15, Tryd.ntmps15
  go_wp2_with fail
  refine (CF.out).mono ?_
  rintro e w1 ⟨v, rfl, ho, hb1⟩
  obtain ⟨A, c, rfl, hc1, hc2⟩ := (Rd.of_own ho).form
  unfold maxLen at hc2
  have HO := Lib.hid ho
  clear ho CF
  go_wp2
  go_loopw [4, 5, 18] (fun vf vt vi wr => FindRel L rs w (.slice A L.length c) vf vt vi wr) (fun _ _ vi _ => L.length - (intOf vi).toNat)
  case atStart => exact ⟨0, Nat.zero_le _, rfl, HO.out, World.ownsRow_nil _ _ _ _, World.ownsRow_nil _ _ _ _, .inl rfl, .inl rfl, hb1⟩
  case round =>
    obtain ⟨k, hk, rfl, hr, hf, ht, hft, htf, hbw⟩ := hrel
    by_cases hlt : k < L.length
    · have hkr : k < rs.length := by rw [← HRS.out, List.length_map]; exact hlt
      have hg := cells4_get rs k hkr
      have hrk : rs[k] = row4 ps L[k] := by
        have e := HRS.out
        simp only [← e, List.getElem_map]
      rw [hrk] at hg
      obtain ⟨g, cap, hvv, _, hgl, _, _⟩ := own_form hr (by omega)
      obtain ⟨rfl, rfl⟩ : A = some ⟨g, 0, none⟩ ∧ c = cap := by injection hvv with e1 e2 e3; exact ⟨e1, e3⟩
      have d0 := (hr.cellAt (k * 4) (by omega)).trans hg.1
      have d1 := (hr.cellAt (k * 4 + 1) (by omega)).trans hg.2.1
      have d2 := (hr.cellAt (k * 4 + 2) (by omega)).trans hg.2.2.1
      have d3 := (hr.cellAt (k * 4 + 3) (by omega)).trans hg.2.2.2
      have htk := List.take_succ_eq_append_getElem hlt
      obtain ⟨r, hrr⟩ : ∃ r, L[k] = r := ⟨_, rfl⟩
      rw [hrr] at d0 d1 d2 d3 htk
      simp only [row4] at d0 d1 d2 d3
      have HTK := Lib.hid htk
      have HF := Lib.hid hf
      have HT := Lib.hid ht
      have HR := Lib.hid hr
      have HFT := Lib.hid hft
      have HTF := Lib.hid htf
      obtain ⟨x, hxx⟩ : ∃ x, off ps r.1 = x := ⟨_, rfl⟩
      obtain ⟨y, hyy⟩ : ∃ y, off ps r.2 = y := ⟨_, rfl⟩
      rw [hxx] at d0
      rw [hyy] at d2
      have hbs := hbw.size
      clear hg hrk hvv hrr htk hf ht hr hft htf hxx hyy HO
      go_wp2
      obtain ⟨O, hO⟩ : ∃ O, Obj.cells #[.int .i64 (x : Nat), .int .i64 (r.1 : Nat), .int .i64 (y : Nat), .int .i64 (r.2 : Nat)] 56 = O := ⟨_, rfl⟩
      have c1 : (wr.alloc O).cell? ⟨wr.heap.size, 1, none⟩ = some (.int .i64 (r.1 : Nat)) := by rw [← hO, cell_of_row _ _ 1 _ 56 (0, 0) (heap_alloc_new wr _)]; rfl
      have c3 : (wr.alloc O).cell? ⟨wr.heap.size, 3, none⟩ = some (.int .i64 (r.2 : Nat)) := by rw [← hO, cell_of_row _ _ 3 _ 56 (0, 0) (heap_alloc_new wr _)]; rfl
      have hof := own_info (HF.out.alloc O) (g := wr.heap.size) (t := 56) (e := 3) (by rw [← hO]; exact heap_alloc_new wr _) (by decide)
      have hot := own_info (HT.out.alloc O) (g := wr.heap.size) (t := 56) (e := 3) (by rw [← hO]; exact heap_alloc_new wr _) (by decide)
      have HF2 := Lib.hid (HF.out.alloc O)
      have HT2 := Lib.hid (HT.out.alloc O)
      have HR2 := Lib.hid (HR.out.alloc O)
      have hb2 := hbw.alloc hbs O
      have hsz2 := alloc_size wr O
      rw [hO]
      obtain ⟨W, hW⟩ : ∃ W, wr.alloc O = W := ⟨_, rfl⟩
      obtain ⟨rb, hrb⟩ : ∃ rb, wr.heap.size = rb := ⟨_, rfl⟩
      rw [hW] at c1 c3 HF2 HT2 HR2 hb2 hsz2 ⊢
      rw [hrb] at c1 c3 hof hot hsz2 hbs ⊢
      have hWs : rb < W.heap.size := by omega
      have hWb : w.heap.size ≤ W.heap.size := by omega
      clear hO hW hrb HF HT HR hbw d0 d1 d2 d3 hsz2
      go_region_held3 (fun w' => w'.cell? ⟨rb, 1, none⟩ = some (.int .i64 (r.1 : Nat)) ∧ w'.cell? ⟨rb, 3, none⟩ = some (.int .i64 (r.2 : Nat)))
        (first
          | go_keep
          | (go_split_ands
             refine ⟨?_, ?_⟩
             · (rw [hgrow2.cell_far _ (by have := hgrow1.size; simp at this ⊢; omega) (Ne.symm hot)]; assumption)
             · (rw [hgrow2.cell_far _ (by have := hgrow1.size; simp at this ⊢; omega) (Ne.symm hot)]; assumption))
          | (go_split_ands
             refine ⟨?_, ?_⟩
             · (rw [hgrow1.cell_far _ (by simp; omega) (Ne.symm hof)]; assumption)
             · (rw [hgrow1.cell_far _ (by simp; omega) (Ne.symm hof)]; assumption)))
        ((first
          | (refine step_append_lies _ (by rfl) _ _ _ (by rfl) w.heap.size 3 i0 _ 1 8 Tryd.underlying31 hi hz0 hz1 hz2 rfl (by omega) u4 k (nums ((L.take k).map (·.1))) (by rfl) (by first | exact (HF2.out.alloc _).drew | exact ((HF2.out.alloc _).alloc _).drew) _ 1 1 [.int .i64 (r.1 : Nat)] (by rfl) (by rfl) (by first | exact news_at (heap_n1d _ _) | exact news_at (heap_n2d _ _ _) | exact news_at (heap_o2d _ _ _)) (by simp [Value.oneCell']) (by omega) (by simp only [maxLen]; omega) (by omega) (by simp; omega) _ (by rfl) ?_
             intro g1 cap1 w4 hown1 hgrow1 hat1 hlt1)
          | (refine step_append_lies _ (by rfl) _ _ _ (by rfl) w.heap.size 3 i0 _ 1 8 Tryd.underlying31 hi hz0 hz1 hz2 rfl (by omega) u5 k (nums ((L.take k).map (·.2))) (by rfl)
               (by first | exact (((HT2.out.alloc _).drew).kept hgrow1 HTF.out).alloc _ | exact (((HT2.out.alloc _).alloc _).drew).kept hgrow1 HTF.out) _ 1 1 [.int .i64 (r.2 : Nat)] (by rfl) (by rfl)
               (by first | exact news_at (heap_n1 _ _) | exact news_at ((hgrow1.block _ (by simp) (own_ne_ge HF2.out (by omega))).trans (heap_n2d _ _ _)) | exact news_at ((hgrow1.block _ (by simp; omega) (own_ne_ge HF2.out (by omega))).trans (heap_o2d _ _ _))) (by simp [Value.oneCell']) (by omega) (by simp only [maxLen]; omega) (by omega) (by have := hgrow1.size; simp at this ⊢; omega) _ (by rfl) ?_
             intro g2 cap2 w5 hown2 hgrow2 hat2 hlt2)))
      all_goals
        have fin := two_appends HF2.out HT2.out HR2.out HFT.out HTF.out hWb (by first | exact ((Below.refl _ _).alloc (Nat.le_refl _) _).drew | exact (((Below.refl _ _).alloc (Nat.le_refl _) _).alloc (by simp) _).drew) hgrow1 hown1 hat1 (by simp <;> omega) hlt1
          (by first | exact (Below.refl _ _).alloc (Nat.le_refl _) _ | exact Below.refl _ _ | exact (Below.refl _ _).drew) hgrow2 hown2 hat2 (by simp)
        have FIN := Lib.hid fin
        have HO2 := Lib.hid hown2
        clear fin hgrow1 hgrow2 hown1 hown2 hat1 hat2
        go_wp2
        go_roundw
        case rel =>
          obtain ⟨q1, q2, q3, q4, q5⟩ := FIN.out
          refine ⟨k + 1, by omega, by go_num, q1, ?_, ?_, q3, q4, hb2.trans q5⟩
          · rw [HTK.out, List.map_append]; unfold nums at q2 ⊢; rw [List.map_append]; exact q2
          · have := HO2.out; rw [HTK.out, List.map_append]; unfold nums at this ⊢; rw [List.map_append]; exact this
        case measure => simp [intOf]; omega
    · have e1 : L.take k = L := List.take_of_length_le (by omega)
      have e2 : k = L.length := by omega
      subst e2
      rw [e1] at hf ht
      have HF := Lib.hid hf
      have HT := Lib.hid ht
      clear hf ht e1 hr hft htf HO
      go_wp2
      go_ret3
      exact ⟨_, _, rfl, HF.out, HT.out, hbw⟩
set_option maxHeartbeats 400000 in
theorem find_none (l name : Bs) (x : Int) (w : World)
    (h : Calls Tryd.prog 29 #[.string (ofL l), .string (ofL name)] w fun e w' => e = .returned (.tuple #[.slice none 0 0, .int .i64 x]) ∧ Below w.heap.size w w') :
    Calls Tryd.prog 15 #[.string (ofL l), .string (ofL name)] w fun e w' => e = .returned (.tuple #[.slice none 0 0, .slice none 0 0, .int .i64 x]) ∧ Below w.heap.size w w' := by
  have H := Lib.hid h
  clear h
  go_enter Tryd.func15, Tryd.ntmps15
  go_wp2_with fail
  refine (H.out).mono ?_
  rintro e w1 ⟨rfl, hb1⟩
  go_wp2
  go_loop [4, 5, 18] (fun vf vt vi => vf = .slice none 0 0 ∧ vt = .slice none 0 0 ∧ vi = .int .i64 0) (fun _ _ _ => 0)
  case atStart => exact ⟨rfl, rfl, rfl⟩
  case round =>
    obtain ⟨rfl, rfl, rfl⟩ := hrel
    go_wp2
    go_ret3
    exact ⟨rfl, hb1⟩
theorem find_bad (l name : Bs) (hv : Lib.validD l = false) (w : World) (hl : l.length ≤ 1000000) (hT : Tabs w) :
    Calls Tryd.prog 15 #[.string (ofL l), .string (ofL name)] w fun e w' => e = .returned (.tuple #[.slice none 0 0, .slice none 0 0, .int .i64 60]) ∧ Below w.heap.size w w' :=
  find_none l name 60 w (found_bad l name hv w hl hT)
theorem find_no (ps : List Bs) (hps : AllP ps) (name : Bs) (hid : identL name = false) (w : World) (hl : ps.flatten.length ≤ 1000000) (hn : name.length ≤ 1000000) (hT : Tabs w) :
    Calls Tryd.prog 15 #[.string (ofL ps.flatten), .string (ofL name)] w fun e w' => e = .returned (.tuple #[.slice none 0 0, .slice none 0 0, .int .i64 61]) ∧ Below w.heap.size w w' :=
  find_none ps.flatten name 61 w (found_no ps hps name hid w hl hn hT)
end Go.Proofs.YtdkkfjcbdokdjaaDoor
