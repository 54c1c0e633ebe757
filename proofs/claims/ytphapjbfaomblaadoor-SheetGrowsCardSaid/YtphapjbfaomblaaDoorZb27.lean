/- Texts of this seat, one behind the other: KB, LA. -/
import Derived.Test.YtphapjbfaomblaaDoorZb26
import Derived.Test.YtphapjbfaomblaaDoorZb16
import Derived.Test.YtphapjbfaomblaaDoorZb25
/- The document's Elements: those of runs, the first one of each name alone. -/
namespace Go.Proofs.YtphapjbfaomblaaDoor
open Go Go.RowKit Go.Maps
/-! plain -/
def addC (M : List El) (e : El) : List El := if e.id = zeroI ∨ e.id ∈ M.map El.id then M else M ++ [e]
def cntL (F : List El) : List El := F.foldl addC []
theorem cntL_snoc (F : List El) (e : El) : cntL (F ++ [e]) = addC (cntL F) e := by
  unfold cntL
  rw [List.foldl_append]
  rfl
theorem cntL_memN : ∀ (n : Nat) (F : List El), F.length = n → (∀ e, e ∈ cntL F ↔ Counts F e) ∧ UnlikeK El.id (cntL F) ∧ (cntL F).length ≤ F.length := by
  intro n
  induction n with
  | zero =>
    intro F hF
    rw [List.length_eq_zero_iff] at hF
    subst hF
    exact ⟨fun e => ⟨fun h => absurd h (by simp [cntL]), fun h => absurd (counts_mem h) (by simp)⟩, List.Pairwise.nil, Nat.le_refl _⟩
  | succ n ih =>
    intro F' hF'
    rcases list_snoc F' with rfl | ⟨F, x, rfl⟩
    · cases hF'
    obtain ⟨h1, h2, h3⟩ := ih F (by simpa using hF')
    rw [cntL_snoc]
    have hx : (x.id = zeroI ∨ x.id ∈ (cntL F).map El.id) ↔ had F x.id ≠ 0 := by
      have hh : had F x.id ≠ 0 ↔ x.id = zeroI ∨ ∃ g ∈ F, g.id = x.id := by
        unfold had
        by_cases hz : x.id = zeroI
        · rw [if_pos hz]; exact ⟨fun _ => .inl hz, fun _ => by omega⟩
        · rw [if_neg hz, Nat.add_zero]
          constructor
          · intro h
            obtain ⟨g, hg⟩ := List.exists_mem_of_length_pos (Nat.pos_of_ne_zero h)
            obtain ⟨h4, h5⟩ := List.mem_filter.1 hg
            exact .inr ⟨g, h4, by simpa using h5⟩
          · rintro (h | ⟨g, hg, h⟩)
            · exact absurd h hz
            · have : g ∈ F.filter (fun e => decide (e.id = x.id)) := List.mem_filter.2 ⟨hg, by simpa using h⟩
              have := List.length_pos_of_mem this
              omega
      rw [hh]
      by_cases hz : x.id = zeroI
      · exact ⟨fun _ => .inl hz, fun _ => .inl hz⟩
      refine Iff.trans (or_iff_right hz) (Iff.trans ?_ (or_iff_right hz).symm)
      constructor
      · intro h
        obtain ⟨g, hg, h4⟩ := List.mem_map.1 h
        exact ⟨g, counts_mem ((h1 g).1 hg), h4⟩
      · rintro ⟨g, hg, h4⟩
        obtain ⟨f, hf, h5⟩ := firstK_exists (key := El.id) hg
        exact List.mem_map.2 ⟨f, (h1 f).2 ⟨hf, by rw [h5, h4]; exact hz⟩, h5.trans h4⟩
    unfold addC
    by_cases hc : x.id = zeroI ∨ x.id ∈ (cntL F).map El.id
    · rw [if_pos hc]
      refine ⟨fun e => ?_, h2, by rw [List.length_append]; omega⟩
      rw [h1 e, counts_snoc]
      exact ⟨.inl, fun h => h.elim id fun h => absurd h.2 (hx.1 hc)⟩
    · rw [if_neg hc]
      have h0 : had F x.id = 0 := Classical.byContradiction fun h => hc (hx.2 h)
      refine ⟨fun e => ?_, ?_, by simp; exact h3⟩
      · rw [List.mem_append, List.mem_singleton, h1 e, counts_snoc]
        exact ⟨fun h => h.imp id fun h => ⟨h, h0⟩, fun h => h.imp id fun h => h.1⟩
      · unfold UnlikeK
        refine List.pairwise_append.2 ⟨h2, List.pairwise_singleton _ _, fun a ha b hb h => ?_⟩
        rw [List.mem_singleton.1 hb] at h
        exact hc (.inr (List.mem_map.2 ⟨a, ha, h⟩))
theorem cntL_mem (F : List El) : (∀ e, e ∈ cntL F ↔ Counts F e) ∧ UnlikeK El.id (cntL F) ∧ (cntL F).length ≤ F.length := cntL_memN _ F rfl
theorem nthI_at (x : Id) : ∀ m : Nat, x.I + m < 9223372036854775807 → (nthI x m).s = x.s ∧ (nthI x m).I = x.I + m
  | 0, _ => ⟨rfl, by simp [nthI]⟩
  | m + 1, h => by
    obtain ⟨h1, h2⟩ := nthI_at x m (by omega)
    refine ⟨h1, ?_⟩
    show (if (nthI x m).I = 9223372036854775807 then _ else (nthI x m).I + 1) = _
    rw [if_neg (by omega), h2]
    omega
def hadE (M : List El) (s : Id) : Bool := M.any (fun g => decide (g.id = s))
theorem hadE_iff (M : List El) (s : Id) : hadE M s = true ↔ s ∈ M.map El.id := by
  unfold hadE
  rw [List.any_eq_true, List.mem_map]
  exact ⟨fun ⟨g, hg, h⟩ => ⟨g, hg, by simpa using h⟩, fun ⟨g, hg, h⟩ => ⟨g, hg, by simpa using h⟩⟩
theorem hadE_succ {M : List El} {j : Nat} (h : j < M.length) (s : Id) : hadE (M.take (j + 1)) s = (hadE (M.take j) s || decide (M[j].id = s)) := by
  unfold hadE
  rw [List.take_succ_eq_append_getElem h, List.any_append]
  simp
/-- a block of another kind is kept when a row grows -/
theorem grown_kind {w w' : World} {base : Nat} {e : TypeId} {K n : Nat} {v : Value} {xs : List Value} (hO : w.ownsRow base e K v n xs) (hg : w.grownBy w' v.ownBlock) {k : Nat} {cur : Array Value} {t : TypeId} {fr : Nat × Nat} (hk : w.heap[k]? = some (.cells cur t fr)) (ht : t ≠ e) : w'.heap[k]? = some (.cells cur t fr) := by
  refine (hg.block k (Array.getElem?_eq_some_iff.1 hk).1 (fun h => ?_)).trans hk
  rcases hO.2 with ⟨rfl, _⟩ | ⟨g', cap, cur', rfl, _, hh, _⟩
  · cases h
  · cases h
    rw [hk] at hh
    cases hh
    exact ht rfl
theorem rsplit_pcs (tx : ByteArray) (w : World) (hl : tx.size ≤ 1000000000) :
    Calls Tryd.prog 71 #[.string tx] w fun e w' => ∃ v er, e = .returned (.tuple #[v, .int .i64 er]) ∧ w'.ownsRow w.heap.size 9 1 v (pcs tx.data.toList).length ((pcs tx.data.toList).map str) ∧ Below w.heap.size w w' := by
  have hs : tx = ofL tx.data.toList := (ofL_data tx).symm
  have hln : tx.data.toList.length = tx.size := (Lib.size_eq tx).symm
  obtain ⟨l, hll⟩ : ∃ l, tx.data.toList = l := ⟨_, rfl⟩
  rw [hll] at hs hln ⊢
  rw [hs]
  refine (rsplit_any l w (by omega)).mono ?_
  rintro e w' (⟨ps, v, h1, h2, h3, h4, h5⟩ | ⟨h1, h2, h3⟩)
  · rw [h2, pcs_of h1]
    exact ⟨v, 0, h3, h4, h5⟩
  · rw [pcs_bad h1]
    exact ⟨_, 60, h2, World.ownsRow_nil _ _ _ _, h3⟩
def ElsPost (R : List Rn) (w : World) (e : Ending) (w' : World) : Prop := ∃ v, e = .returned v ∧ w'.ownsRow w.heap.size 112 7 v (cntL (flat R)).length ((cntL (flat R)).flatMap reC) ∧ Below w.heap.size w w'
def ElsRel (R : List Rn) (w : World) (out i : Value) (wr : World) : Prop := ∃ k : Nat, k ≤ R.length ∧ i = .int .i64 k ∧ wr.ownsRow w.heap.size 112 7 out (cntL (flat (R.take k))).length ((cntL (flat (R.take k))).flatMap reC) ∧ Below w.heap.size w wr
def MidE (F0 : List El) (af el : Id) (ps : List (List UInt8)) (w : World) (bA : Nat) (p out i : Value) (wr : World) : Prop :=
  ∃ m : Nat, m ≤ ps.length ∧ i = .int .i64 m ∧ Box wr bA (nthA af el m) ∧ wr.ownsRow w.heap.size 9 1 p ps.length (ps.map str) ∧
    wr.ownsRow w.heap.size 112 7 out (cntL (F0 ++ flatOf af el (ps.take m))).length ((cntL (F0 ++ flatOf af el (ps.take m))).flatMap reC) ∧ Below w.heap.size w wr
def HadRelE (M : List El) (s : Id) (z0 : Bool) (wo : World) (had i : Value) (wr : World) : Prop :=
  ∃ j : Nat, j ≤ M.length ∧ i = .int .i64 j ∧ had = .bool (z0 || hadE (M.take j) s) ∧ ∃ q, wr = wo.drewN q
theorem Box.cells3 {W : World} {b : Nat} {x : Id} (h : Box W b x) : W.cell? ⟨b, 0, none⟩ = some (.int .i64 x.s.T) ∧ W.cell? ⟨b, 1, none⟩ = some (.int .i64 x.s.R) ∧ W.cell? ⟨b, 2, none⟩ = some (.int .i64 x.I) :=
  ⟨cell_of_row _ _ 0 _ _ _ h, cell_of_row _ _ 1 _ _ _ h, cell_of_row _ _ 2 _ _ _ h⟩
theorem Box.thaw {W : World} {b : Nat} {x : Id} (h : Box W b x) (i : Nat) : W.frozen? ⟨b, i, none⟩ = false := by
  unfold Box at h
  simp [World.frozen?, h]
theorem touch_box3 (W : World) (b : Nat) (u v z : Value) : Touch (fun q => q = b) W (((W.setCell ⟨b, 0, none⟩ u).setCell ⟨b, 1, none⟩ v).setCell ⟨b, 2, none⟩ z) :=
  Touch.setCell (F := fun q => q = b) (Touch.setCell (F := fun q => q = b) (Touch.setCell (F := fun q => q = b) (Touch.refl _ _) (p := ⟨b, 0, none⟩) (fun _ => rfl) u) (p := ⟨b, 1, none⟩) (fun _ => rfl) v) (p := ⟨b, 2, none⟩) (fun _ => rfl) z
set_option maxRecDepth 100000 in
set_option maxHeartbeats 8000000 in
theorem elements_any (R : List Rn) (A : Option Addr) (n c B : Nat) (w : World) (hR : Rd w B 7 (.slice A n c) n (R.flatMap rnC)) (hB : B ≤ w.heap.size) (hF : (flat R).length ≤ 100000) (htx : ∀ r ∈ R, r.tx.size ≤ 100000) (hI : ∀ r ∈ R, 0 ≤ r.el.I ∧ r.el.I ≤ 1000000) :
    Calls Tryd.prog 59 #[.slice A n c] w (ElsPost R w) := by
  obtain rfl := len_of rnC 7 (fun _ => rfl) (by decide) hR.1
  have hnl := hR.len
  unfold maxLen at hnl
  have HR := Lib.hid (fun W (hW : Below w.heap.size w W) => hR.below' hW hB)
  have HF := Lib.hid hF
  have HTX := Lib.hid htx
  have HI := Lib.hid hI
  clear hR hF htx hI
  obtain ⟨i0, hi, hz0, hz1, hz2⟩ := info_parts info112
  go_enter Tryd.func59, Tryd.ntmps59
  go_wp2
  go_loopw [3, 4] (fun out i wr => ElsRel R w out i wr) (fun _ i _ => R.length - (intOf i).toNat)
  case atStart => exact ⟨0, Nat.zero_le _, rfl, World.ownsRow_nil _ _ _ _, Below.refl _ _⟩
  case round =>
    obtain ⟨k, hk, rfl, hO, hb⟩ := hrel
    obtain ⟨M0, hM0⟩ : ∃ M, cntL (flat (R.take k)) = M := ⟨_, rfl⟩
    rw [hM0] at hO
    obtain ⟨Ao, co, rfl, _, _⟩ := (Rd.of_own hO).form
    have HO := Lib.hid hO
    have HM0 := Lib.hid hM0
    have hRk := HR.out wr hb
    obtain ⟨wo, rfl⟩ : ∃ wo : World, wo = wr := ⟨_, rfl⟩
    clear hM0
    by_cases hlt : k < R.length
    · obtain ⟨b, o, rfl, hBb, hcell⟩ := rd_at rnC 7 (fun _ => rfl) (by decide) hRk hlt
      have hft := flatR_take R hlt
      have htxk := HTX.out R[k] (List.getElem_mem hlt)
      have hIk := HI.out R[k] (List.getElem_mem hlt)
      have hfl : (flat (R.take (k + 1))).length ≤ 100000 := by
        have h1 : flat R = flat (R.take (k + 1)) ++ flat (R.drop (k + 1)) := by
          unfold flat
          rw [← List.flatMap_append, List.take_append_drop]
        have := HF.out
        rw [h1, List.length_append] at this
        omega
      obtain ⟨r, hr⟩ : ∃ r, R[k] = r := ⟨_, rfl⟩
      rw [hr] at hcell hft htxk hIk
      obtain ⟨F0, hF0⟩ : ∃ F, flat (R.take k) = F := ⟨_, rfl⟩
      rw [hF0] at hft HM0
      rw [hft] at hfl
      obtain ⟨af, el, tx⟩ := r
      dsimp only at hft hfl htxk hIk
      have hsp := fun W => rsplit_pcs tx W (by omega)
      have hpl := pcs_le tx.data.toList
      rw [← Lib.size_eq] at hpl
      obtain ⟨ps, hps⟩ : ∃ ps, pcs tx.data.toList = ps := ⟨_, rfl⟩
      rw [hps] at hft hfl hsp hpl
      have HFT := Lib.hid hft
      have HSP := Lib.hid hsp
      have hbl : b < w.heap.size := Nat.lt_of_lt_of_le hBb hB
      have hcw : ∀ W, Below w.heap.size w W → ∀ j u, (rnC ⟨af, el, tx⟩)[j]? = some u → W.cell? ⟨b, o + k * 7 + j, none⟩ = some u := fun W hW j u hu => by
        have h1 : wo.cell? ⟨b, o + k * 7 + j, none⟩ = some u := hcell j u hu
        rw [hb.cell (p := ⟨b, o + k * 7 + j, none⟩) hbl] at h1
        exact (hW.cell (p := ⟨b, o + k * 7 + j, none⟩) hbl).trans h1
      have HCW := Lib.hid hcw
      have d6 : wo.cell? ⟨b, o + k * 7 + 6, none⟩ = some (.string tx) := hcell 6 _ rfl
      have i1 : (0 : Int) ≤ (k : Int) := by omega
      have i2 : (k : Int) < (R.length : Int) := by omega
      have hps1 : ps.length ≤ 100000 := by omega
      have HB := Lib.hid hb
      have hwo : w.heap.size ≤ wo.heap.size := hb.size
      clear hcell hcw hr hft hsp hpl hps htxk hF0 hRk hO hb
      go_wp2_with fail
      refine (HSP.out wo).mono ?_
      rintro e w2 ⟨vp, er, rfl, hp, hb2⟩
      obtain ⟨Ap, cp, rfl, hpc, hpm⟩ := (Rd.of_own hp).form
      have hb02 : Below w.heap.size w w2 := HB.out.trans (hb2.mono hwo)
      have e0 : w2.cell? ⟨b, o + k * 7, none⟩ = some (.int .i64 af.s.T) := HCW.out w2 hb02 0 _ rfl
      have e1 : w2.cell? ⟨b, o + k * 7 + 1, none⟩ = some (.int .i64 af.s.R) := HCW.out w2 hb02 1 _ rfl
      have e2 : w2.cell? ⟨b, o + k * 7 + 2, none⟩ = some (.int .i64 af.I) := HCW.out w2 hb02 2 _ rfl
      have HO2 := Lib.hid (own_grows HO.out hb2)
      have hp0 : w2.ownsRow w.heap.size 9 1 (.slice Ap ps.length cp) ps.length (ps.map str) := ⟨hp.1, hp.2.imp id fun ⟨g, cap, cur, f1, hg, r⟩ => ⟨g, cap, cur, f1, Nat.le_trans hwo hg, r⟩⟩
      have HP := Lib.hid hp0
      have HB2 := Lib.hid hb02
      have hw2 : w.heap.size ≤ w2.heap.size := hb02.size
      unfold maxLen at hpm
      clear hp hp0 hb2 hb02 d6 HSP HO
      go_wp2
      obtain ⟨W3, hW3⟩ : ∃ W, w2.alloc (.cells #[.int .i64 af.s.T, .int .i64 af.s.R, .int .i64 af.I] 26) = W := ⟨_, rfl⟩
      have hb23 : Below w2.heap.size w2 W3 := by rw [← hW3]; exact (Below.refl _ w2).alloc (Nat.le_refl _) _
      have hbA : Box W3 w2.heap.size af := by rw [← hW3]; exact heap_alloc_new w2 _
      rw [hW3]
      obtain ⟨bA, hbAe⟩ : ∃ z, w2.heap.size = z := ⟨_, rfl⟩
      have hst : MidE F0 af el ps w bA (.slice Ap ps.length cp) (.slice Ao M0.length co) (.int .i64 0) W3 := ⟨0, Nat.zero_le _, rfl, by rw [← hbAe]; exact hbA, own_grows HP.out hb23, by rw [List.take_zero, flatOf, List.append_nil, HM0.out]; exact own_grows HO2.out hb23, HB2.out.trans (hb23.mono hw2)⟩
      have HST := Lib.hid hst
      have hwA : w.heap.size ≤ bA := by omega
      have hz : (w2.heap.size : Nat) = bA := hbAe
      simp only [hz]
      clear hW3 hb23 hbA hbAe hst hz e0 e1 e2 HO2 HP HB2 hw2 HB hwo
      go_loopw [3, 8] (fun out i wr => MidE F0 af el ps w bA (.slice Ap ps.length cp) out i wr) (fun _ i _ => ps.length - (intOf i).toNat)
      case atStart => exact HST.out
      case round =>
        clear HST
        obtain ⟨m, hm, rfl, hBx, hP, hO, hbm⟩ := hrel
        obtain ⟨wi, rfl⟩ : ∃ wi : World, wi = wr := ⟨_, rfl⟩
        obtain ⟨F, hFe⟩ : ∃ F, F0 ++ flatOf af el (ps.take m) = F := ⟨_, rfl⟩
        have hFl : F.length ≤ 100000 := by
          rw [← hFe, List.length_append, flatOf_len, List.length_take]
          rw [List.length_append, flatOf_len] at hfl
          omega
        rw [hFe] at hO
        by_cases hml : m < ps.length
        · have hFT := flatOf_take af el ps hml
          have hat := nthI_at el m (by omega)
          obtain ⟨y, hy⟩ : ∃ y, nthA af el m = y := ⟨_, rfl⟩
          obtain ⟨x, hx⟩ : ∃ x, nthI el m = x := ⟨_, rfl⟩
          obtain ⟨p, hp⟩ : ∃ p, ps[m] = p := ⟨_, rfl⟩
          have hFT2 : F0 ++ flatOf af el (ps.take (m + 1)) = F ++ [⟨x, y, ofL p⟩] := by rw [hFT, ← List.append_assoc, hFe, hx, hy, hp]
          have hXN : nthA af el (m + 1) = x := hx
          rw [hy] at hBx
          rw [hx] at hat
          have hxI : (0 : Int) ≤ el.I + m ∧ el.I + m ≤ 9223372036854775807 := by omega
          have hw : IntKind.i64.wrap (el.I + (m : Int)) = x.I := by rw [hat.2]; exact IntWalk.i64_in _ (by omega)
          have d3 : wi.cell? ⟨b, o + k * 7 + 3, none⟩ = some (.int .i64 x.s.T) := by rw [hat.1]; exact HCW.out wi hbm 3 _ rfl
          have d4 : wi.cell? ⟨b, o + k * 7 + 3 + 1, none⟩ = some (.int .i64 x.s.R) := by rw [hat.1]; exact HCW.out wi hbm 4 _ rfl
          have d5 : wi.cell? ⟨b, o + k * 7 + 3 + 2, none⟩ = some (.int .i64 el.I) := HCW.out wi hbm 5 _ rfl
          have hbmz := hbm.alloc hbm.size (.cells #[.int .i64 0, .int .i64 0, .int .i64 0] 26)
          have f3 : (wi.alloc (.cells #[.int .i64 0, .int .i64 0, .int .i64 0] 26)).cell? ⟨b, o + k * 7 + 3, none⟩ = some (.int .i64 x.s.T) := by rw [hat.1]; exact HCW.out _ hbmz 3 _ rfl
          have f4 : (wi.alloc (.cells #[.int .i64 0, .int .i64 0, .int .i64 0] 26)).cell? ⟨b, o + k * 7 + 3 + 1, none⟩ = some (.int .i64 x.s.R) := by rw [hat.1]; exact HCW.out _ hbmz 4 _ rfl
          have f5 : (wi.alloc (.cells #[.int .i64 0, .int .i64 0, .int .i64 0] 26)).cell? ⟨b, o + k * 7 + 3 + 2, none⟩ = some (.int .i64 el.I) := HCW.out _ hbmz 5 _ rfl
          obtain ⟨Av, cv, rfl, hLc, hcm2⟩ := (Rd.of_own hO).form
          have hcl := (cntL_mem F).2.2
          obtain ⟨M, hM⟩ : ∃ M, cntL F = M := ⟨_, rfl⟩
          have hCS := cntL_snoc F ⟨x, y, ofL p⟩
          rw [hM] at hO hcl hCS hLc ⊢
          obtain ⟨gp, op, hvp, hlp, hcp⟩ := (Rd.of_own hP).cells (show 0 < ps.length by omega)
          subst hvp
          have dp : wi.cell? ⟨gp, op + m, none⟩ = some (str p) := hcp m (str p) (by rw [List.getElem?_map, List.getElem?_eq_getElem hml, hp]; rfl)
          unfold str at dp
          obtain ⟨gp', capp, curp, hpe, hgpB, hpg, hpr⟩ := hP.2.resolve_left (fun h => by have := h.1; cases this)
          have hpe' : gp = gp' := by injection hpe with h1; injection h1 with h1; injection h1
          subst hpe'
          have HP := Lib.hid hP
          have HPG := Lib.hid hpg
          have HO := Lib.hid hO
          have HBX := Lib.hid hBx
          have HFT2 := Lib.hid hFT2
          have HCS := Lib.hid hCS
          have HXN := Lib.hid hXN
          have i3 : (0 : Int) ≤ (m : Int) := by omega
          have i4 : (m : Int) < (ps.length : Int) := by omega
          clear hcp hpe hpr hpg hP hO hBx hFT hFT2 hCS hXN hat hx hy hp hM hFe hcm2
          go_wp2
          go_region
          obtain ⟨W4, hW4⟩ : ∃ W, (wi.alloc (.cells #[.int .i64 x.s.T, .int .i64 x.s.R, .int .i64 x.I] 26)).drew = W := ⟨_, rfl⟩
          have hb4 : Below wi.heap.size wi W4 := by rw [← hW4]; exact ((Below.refl _ wi).alloc (Nat.le_refl _) _).drew
          have hX4 : Box W4 wi.heap.size x := by rw [← hW4]; exact heap_alloc_new wi _
          rw [hW4]
          obtain ⟨bX, hbX⟩ : ∃ z, wi.heap.size = z := ⟨_, rfl⟩
          have HX4 := Lib.hid (show Box W4 bX x from by rw [← hbX]; exact hX4)
          have HB4 := Lib.hid (hbm.trans (hb4.mono hbm.size))
          have HO4 := Lib.hid (own_grows HO.out hb4)
          have HP4 := Lib.hid (own_grows HP.out hb4)
          have HPG4 := Lib.hid ((hb4.block gp hlp).trans HPG.out)
          have HBX4 := Lib.hid (show Box W4 bA y from (hb4.block bA (Array.getElem?_eq_some_iff.1 HBX.out).1).trans HBX.out)
          have dp4 : W4.cell? ⟨gp, op + m, none⟩ = some (.string (ofL p)) := (hb4.cell (p := ⟨gp, op + m, none⟩) hlp).trans dp
          have hgp4 : gp < W4.heap.size := Nat.lt_of_lt_of_le hlp hb4.size
          have hne : bX ≠ bA := by have := (Array.getElem?_eq_some_iff.1 HBX.out).1; omega
          simp only [hbX]
          clear hW4 hb4 hX4 hbX HO HP HPG HBX dp d3 d4 d5 f3 f4 f5 hbmz hlp hbm hw
          obtain ⟨x0, x1, x2⟩ := HX4.out.cells3
          have hE0 : eq3 x.s.T x.s.R x.I 0 0 0 = decide (x = zeroI) := eq3_id x zeroI
          obtain ⟨z0, hz0e⟩ : ∃ z, decide (x = zeroI) = z := ⟨_, rfl⟩
          rw [hz0e] at hE0
          have HZ0 := Lib.hid hz0e
          have hq := eql26
          have hgd := gd26
          clear hz0e
          go_wp2
          go_loopw [10, 11] (fun had i wr => HadRelE M x z0 W4 had i wr) (fun _ i _ => M.length - (intOf i).toNat)
          case atStart => exact ⟨0, Nat.zero_le _, rfl, by simp [hadE], 0, rfl⟩
          case round =>
            obtain ⟨j, hj, rfl, rfl, q, rfl⟩ := hrel
            by_cases hjl : j < M.length
            · obtain ⟨g, og, rfl, hBg, hcg⟩ := rd_at reC 7 (fun _ => rfl) (by decide) (Rd.of_own HO4.out) hjl
              have e0 : W4.cell? ⟨g, og + j * 7, none⟩ = some (.int .i64 M[j].id.s.T) := hcg 0 _ rfl
              have e1 : W4.cell? ⟨g, og + j * 7 + 1, none⟩ = some (.int .i64 M[j].id.s.R) := hcg 1 _ rfl
              have e2 : W4.cell? ⟨g, og + j * 7 + 2, none⟩ = some (.int .i64 M[j].id.I) := hcg 2 _ rfl
              have hE := eq3_id M[j].id x
              have hN := hadE_succ hjl x
              obtain ⟨f, hf⟩ : ∃ f, M[j] = f := ⟨_, rfl⟩
              rw [hf] at e0 e1 e2 hE hN
              have HN := Lib.hid hN
              have j1 : (0 : Int) ≤ (j : Int) := by omega
              have j2 : (j : Int) < (M.length : Int) := by omega
              clear hcg hf hN
              rcases hh : (z0 || hadE (M.take j) x) with _ | _
              · have HH := Lib.hid hh
                obtain ⟨bb, hbb⟩ : ∃ bb, decide (f.id = x) = bb := ⟨_, rfl⟩
                rw [hbb] at hE HN
                clear hh hbb
                go_wp2
                go_quiet (fail)
                go_wp2
                go_roundw
                case rel => exact ⟨j + 1, by omega, by go_num, by rw [HN.out, ← Bool.or_assoc, HH.out]; simp, q + nq, rfl⟩
                case measure => simp [intOf]; omega
              · have HH := Lib.hid hh
                clear hh
                go_wp2
                go_quiet (fail)
                go_wp2
                go_roundw
                case rel => exact ⟨j + 1, by omega, by go_num, by rw [HN.out, ← Bool.or_assoc, HH.out]; simp, q + nq, rfl⟩
                case measure => simp [intOf]; omega
            · obtain rfl : j = M.length := by omega
              rw [List.take_length]
              have hbq : Below w.heap.size w (W4.drewN q) := below_drewN HB4.out q
              have HOq := Lib.hid (own_drewNR HO4.out q)
              have HPq := Lib.hid (own_drewNR HP4.out q)
              have HXq := Lib.hid (show Box (W4.drewN q) bX x from HX4.out)
              have HAq := Lib.hid (show Box (W4.drewN q) bA y from HBX4.out)
              have HGq := Lib.hid (show (W4.drewN q).heap[gp]? = _ from HPG4.out)
              have dpq : (W4.drewN q).cell? ⟨gp, op + m, none⟩ = some (.string (ofL p)) := dp4
              have hgpq : gp < (W4.drewN q).heap.size := hgp4
              clear x0 x1 x2 dp4 hgp4
              generalize W4.drewN q = W5 at *
              clear HO4 HP4 HX4 HBX4 HPG4 HB4
              obtain ⟨x0, x1, x2⟩ := HXq.out.cells3
              obtain ⟨y0, y1, y2⟩ := HAq.out.cells3
              have hfz : ∀ i, W5.frozen? ⟨bA, i, none⟩ = false := HAq.out.thaw
              have hMl : M.length ≤ 100000 := by omega
              have hadd : ∀ W6 v6, (W6.ownsRow w.heap.size 112 7 v6 (addC M ⟨x, y, ofL p⟩).length ((addC M ⟨x, y, ofL p⟩).flatMap reC)) → Box W6 bA x → W6.ownsRow w.heap.size 9 1 (.slice (some ⟨gp, op, none⟩) ps.length cp) ps.length (ps.map str) → Below w.heap.size w W6 → MidE F0 af el ps w bA (.slice (some ⟨gp, op, none⟩) ps.length cp) v6 (.int .i64 ((m : Int) + 1)) W6 := fun W6 v6 h1 h2 h3 h4 => ⟨m + 1, hml, rfl, by rw [HXN.out]; exact h2, h3, by rw [HFT2.out, HCS.out]; exact h1, h4⟩
              have HADD := Lib.hid hadd
              clear hadd
              rcases hh : (z0 || hadE M x) with _ | _
              · have hno : addC M ⟨x, y, ofL p⟩ = M ++ [⟨x, y, ofL p⟩] := by
                  unfold addC
                  rw [if_neg]
                  rw [Bool.or_eq_false_iff] at hh
                  rintro (h | h)
                  · rw [← HZ0.out] at hh; exact absurd h (of_decide_eq_false hh.1)
                  · rw [(hadE_iff M x).2 h] at hh; cases hh.2
                have HNO := Lib.hid hno
                have HQ := Lib.hid (fun W' (hx : Box W' bX x) (hy : Box W' bA y) (hp : W'.heap[gp]? = W5.heap[gp]?) => (show W'.cell? ⟨bX, 0, none⟩ = some (.int .i64 x.s.T) ∧ W'.cell? ⟨bX, 1, none⟩ = some (.int .i64 x.s.R) ∧ W'.cell? ⟨bX, 2, none⟩ = some (.int .i64 x.I) ∧ W'.cell? ⟨bA, 0, none⟩ = some (.int .i64 y.s.T) ∧ W'.cell? ⟨bA, 1, none⟩ = some (.int .i64 y.s.R) ∧ W'.cell? ⟨bA, 2, none⟩ = some (.int .i64 y.I) ∧ W'.cell? ⟨gp, op + m, none⟩ = some (.string (ofL p)) from ⟨hx.cells3.1, hx.cells3.2.1, hx.cells3.2.2, hy.cells3.1, hy.cells3.2.1, hy.cells3.2.2, (World.cell?_of_block (a := ⟨gp, op + m, none⟩) hp).trans dpq⟩))
                have HK := Lib.hid (show ∀ o W6, (W5.drew.alloc o).grownBy W6 (Value.slice Av M.length cv).ownBlock → Box W6 bX x ∧ Box W6 bA y ∧ W6.heap[gp]? = W5.heap[gp]? from fun o W6 hg => by
                  have h0 : (W5.drew.alloc o).ownsRow w.heap.size 112 7 (.slice Av M.length cv) M.length (M.flatMap reC) := (own_drewR HOq.out).alloc _
                  have hX : Box (W5.drew.alloc o) bX x := (Below.heap_alloc _ _ _ (Array.getElem?_eq_some_iff.1 HXq.out).1).trans HXq.out
                  have hA : Box (W5.drew.alloc o) bA y := (Below.heap_alloc _ _ _ (Array.getElem?_eq_some_iff.1 HAq.out).1).trans HAq.out
                  have hG : (W5.drew.alloc o).heap[gp]? = some (.cells curp 9 (0, 0)) := (Below.heap_alloc W5.drew o gp hgpq).trans HGq.out
                  exact ⟨grown_kind h0 hg hX (by decide), grown_kind h0 hg hA (by decide), (grown_kind h0 hg hG (by decide)).trans HGq.out.symm⟩)
                have hS1 := HQ.out W5.drew HXq.out HAq.out rfl
                have hxa : ∀ o, Box ((W5.alloc o).drew) bX x := fun o => (Below.heap_alloc _ _ _ (Array.getElem?_eq_some_iff.1 HXq.out).1).trans HXq.out
                have hya : ∀ o, Box ((W5.alloc o).drew) bA y := fun o => (Below.heap_alloc _ _ _ (Array.getElem?_eq_some_iff.1 HAq.out).1).trans HAq.out
                have hga : ∀ o, ((W5.alloc o).drew).heap[gp]? = W5.heap[gp]? := fun o => Below.heap_alloc _ _ _ hgpq
                have HQA := Lib.hid (fun o => HQ.out _ (hxa o) (hya o) (hga o))
                clear hh hno hfz y0 y1 y2 x0 x1 x2 hxa hya hga
                go_wp2
                go_region_held3 (fun W' => W'.cell? ⟨bX, 0, none⟩ = some (.int .i64 x.s.T) ∧ W'.cell? ⟨bX, 1, none⟩ = some (.int .i64 x.s.R) ∧ W'.cell? ⟨bX, 2, none⟩ = some (.int .i64 x.I) ∧ W'.cell? ⟨bA, 0, none⟩ = some (.int .i64 y.s.T) ∧ W'.cell? ⟨bA, 1, none⟩ = some (.int .i64 y.s.R) ∧ W'.cell? ⟨bA, 2, none⟩ = some (.int .i64 y.I) ∧ W'.cell? ⟨gp, op + m, none⟩ = some (.string (ofL p)))
                  (first | exact hS1 | exact HQA.out _ | exact hS5 | go_keep)
                  ((refine step_append_lies _ (by rfl) _ _ _ (by rfl) w.heap.size 112 i0 _ 7 64 Tryd.underlying60 hi hz0 hz1 hz2 rfl (by omega) _ M.length _ (by rfl) ((own_drewR HOq.out).alloc _) ⟨W5.heap.size, 0, none⟩ 1 1 (reC ⟨x, y, ofL p⟩) (by rfl) (by rfl) (cells_new W5.drew (reC ⟨x, y, ofL p⟩) 112) (reC_one _) (by omega) (by unfold maxLen; omega) (by omega) (by have := hbq.size; simp at this ⊢; omega) _ (by rfl) ?_
                    intro g cap W6 hown hgrow hat0 hgl0
                    obtain ⟨hX6, hA6, hG6⟩ := HK.out _ _ hgrow
                    have hS5 := HQ.out W6 hX6 hA6 hG6))
                have hP6 : W6.ownsRow w.heap.size 9 1 (.slice (some ⟨gp, op, none⟩) ps.length cp) ps.length (ps.map str) := ⟨HPq.out.1, HPq.out.2.imp id fun ⟨g1, cap1, cur1, f1, f2, f3, f4⟩ => ⟨g1, cap1, cur1, f1, f2, by
                  have h9 : gp = g1 := by injection f1 with h1; injection h1 with h1; injection h1
                  subst h9
                  exact hG6.trans f3, f4⟩⟩
                have hb6 : Below w.heap.size w W6 := ((hbq.drew).alloc hbq.size _).grown hgrow (by have := hbq.size; simp; omega) (fun j hj => (HOq.out.lt j hj).1)
                have hO6 : W6.ownsRow w.heap.size 112 7 (.slice (some ⟨g, 0, none⟩) (M.length + 1) cap) (addC M ⟨x, y, ofL p⟩).length ((addC M ⟨x, y, ofL p⟩).flatMap reC) := by
                  rw [HNO.out, List.length_append, List.flatMap_append]
                  simpa using hown
                have HO6 := Lib.hid hO6
                have HP6 := Lib.hid hP6
                have HA6 := Lib.hid hA6
                have HB6 := Lib.hid hb6
                obtain ⟨x0, x1, x2⟩ := hX6.cells3
                obtain ⟨y0, y1, y2⟩ := hA6.cells3
                have hfz : ∀ i, W6.frozen? ⟨bA, i, none⟩ = false := hA6.thaw
                clear hown hgrow hat0 hgl0 hX6 hA6 hG6 hS5 hS1 hP6 hb6 hO6 hbq dpq hgpq HOq HPq HXq HAq HGq
                go_wp2
                go_roundw
                case rel =>
                  have tk : Touch (fun q => q = bA) W6 (((W6.setCell ⟨bA, 0, none⟩ (.int .i64 x.s.T)).setCell ⟨bA, 1, none⟩ (.int .i64 x.s.R)).setCell ⟨bA, 2, none⟩ (.int .i64 x.I)) :=
                    touch_box3 _ _ _ _ _
                  have hk : ∀ (ty : TypeId) q cur fr, ty ≠ 26 → q = bA → W6.heap[q]? ≠ some (.cells cur ty fr) := fun ty q cur fr ht hq h => by
                    have h2 := HA6.out
                    unfold Box at h2
                    rw [hq, h2] at h
                    cases h
                    exact ht rfl
                  exact HADD.out _ _ (own_kind HO6.out tk (fun q cur fr h => hk 112 q cur fr (by decide) h)) (set3_heap HA6.out) (own_kind HP6.out tk (fun q cur fr h => hk 9 q cur fr (by decide) h)) (HB6.out.trans (tk.below HB6.out.size (fun q hq h => by omega)))
                case measure => simp [intOf]; omega
              · have hyes : addC M ⟨x, y, ofL p⟩ = M := by
                  unfold addC
                  rw [if_pos]
                  rw [Bool.or_eq_true] at hh
                  rcases hh with h | h
                  · rw [← HZ0.out] at h; exact .inl (of_decide_eq_true h)
                  · exact .inr ((hadE_iff M x).1 h)
                have HYE := Lib.hid hyes
                clear hh hyes dpq hgpq HGq
                have HBQ := Lib.hid hbq
                clear hbq
                go_wp2
                go_roundw
                case rel =>
                  have tk : Touch (fun q => q = bA) W5 (((W5.setCell ⟨bA, 0, none⟩ (.int .i64 x.s.T)).setCell ⟨bA, 1, none⟩ (.int .i64 x.s.R)).setCell ⟨bA, 2, none⟩ (.int .i64 x.I)) :=
                    touch_box3 _ _ _ _ _
                  have hk : ∀ (ty : TypeId) q cur fr, ty ≠ 26 → q = bA → W5.heap[q]? ≠ some (.cells cur ty fr) := fun ty q cur fr ht hq h => by
                    have h2 := HAq.out
                    unfold Box at h2
                    rw [hq, h2] at h
                    cases h
                    exact ht rfl
                  exact HADD.out _ _ (by rw [HYE.out]; exact own_kind HOq.out tk (fun q cur fr h => hk 112 q cur fr (by decide) h)) (set3_heap HAq.out) (own_kind HPq.out tk (fun q cur fr h => hk 9 q cur fr (by decide) h)) (HBQ.out.trans (tk.below HBQ.out.size (fun q hq h => by omega)))
                case measure => simp [intOf]; omega
        · obtain rfl : m = ps.length := by omega
          rw [List.take_length] at hFe
          obtain ⟨Av, cv, rfl, _, _⟩ := (Rd.of_own hO).form
          have HE := Lib.hid (show ElsRel R w (.slice Av (cntL F).length cv) (.int .i64 ((k : Int) + 1)) wi from ⟨k + 1, hlt, rfl, by rw [HFT.out, hFe]; exact hO, hbm⟩)
          clear hP hO hBx hbm hFe
          go_wp2
          go_roundw
          case rel => exact HE.out
          case measure => simp [intOf]; omega
    · obtain rfl : k = R.length := by omega
      have HE := Lib.hid (show ElsPost R w (.returned (.slice Ao M0.length co)) wo from ⟨_, rfl, by have := HM0.out; rw [List.take_length] at this; rw [this]; exact HO.out, hb⟩)
      clear hb hRk hO
      go_wp2
      go_ret
      exact HE.out
end Go.Proofs.YtphapjbfaomblaaDoor
/- SheetInserts, plain: what the text comes to. -/
namespace Go.Proofs.YtphapjbfaomblaaDoor
open Go Go.RowKit
theorem onAt_pos (L : List Pick) : ∀ k s, 0 ≤ onAt L k s
  | 0, _ => Int.le_refl _
  | k + 1, s => by
    have h1 := onAt_pos L k s
    have h2 := onAt_pos L k (gS k (L.getD k zeroP))
    show 0 ≤ onT (onAt L k) (gS k (L.getD k zeroP)) 1 s
    unfold onT
    split <;> omega
def mos : List (List UInt8) := [[88], [89], [90], [87]]
theorem mos_one (m : Nat) : ∀ q ∈ mos.take m, q.length = 1 := fun q hq => by
  have : q ∈ mos := List.mem_of_mem_take hq
  simp only [mos, List.mem_cons, List.mem_nil_iff, or_false] at this
  rcases this with rfl | rfl | rfl | rfl <;> rfl
theorem mos_all (m : Nat) : AllP (mos.take m) := fun q hq => by
  have : q ∈ mos := List.mem_of_mem_take hq
  simp only [mos, List.mem_cons, List.mem_nil_iff, or_false] at this
  rcases this with rfl | rfl | rfl | rfl <;> exact isP_ascii (by decide)
theorem mos_flat : ∀ m, m ≤ 4 → (mos.take m).flatten = [88, 89, 90, 87].take m := by decide
theorem flat_ones : ∀ {ps : List (List UInt8)}, (∀ q ∈ ps, q.length = 1) → ps.flatten.length = ps.length
  | [], _ => rfl
  | q :: ps, h => by
    have h1 := flat_ones (ps := ps) (fun x hx => h x (List.mem_cons_of_mem _ hx))
    have h2 := h q (List.mem_cons_self ..)
    rw [List.flatten_cons, List.length_append, List.length_cons]
    omega
theorem txt_flatOf : ∀ (ps : List (List UInt8)) (a x : Id), txt (flatOf a x ps) = ps.flatten
  | [], _, _ => rfl
  | q :: ps, a, x => by
    rw [flatOf, List.flatten_cons, ← txt_flatOf ps x (nextI x)]
    rfl
theorem flatOf_id : ∀ (ps : List (List UInt8)) (a x : Id) (e : El), e ∈ flatOf a x ps → ∃ j, j < ps.length ∧ e.id = nthI x j
  | [], _, _, e, h => by simp [flatOf] at h
  | q :: ps, a, x, e, h => by
    rw [flatOf] at h
    rcases List.mem_cons.1 h with rfl | h
    · exact ⟨0, by simp, rfl⟩
    · obtain ⟨j, hj, h1⟩ := flatOf_id ps x (nextI x) e h
      exact ⟨j + 1, by simp; omega, by rw [h1, nthI_next]⟩
theorem flatAt_T (L : List Pick) {N : Nat} (hN : N ≤ 15) : ∀ e ∈ flatAt L N, e.id.s.T ≤ 8 := fun e he => by
  have h : e.id ∈ idsAt L N := by rw [idsAt_flat]; exact List.mem_cons_of_mem _ (List.mem_map.2 ⟨e, he, rfl⟩)
  rcases idsAt_form L N _ h with h | ⟨j, s, hj, h⟩
  · rw [h]; decide
  · rw [h]
    unfold gId gS
    dsimp only
    omega
/-- the new stamp -/
def xS (N : Nat) (h : N ≤ 15) : Stamp := ⟨(N : Int) + 100, 1, by unfold I64; omega, by decide⟩
def xI (N : Nat) (h : N ≤ 15) : Id := ⟨xS N h, 0, by decide⟩
theorem nth_xI (N : Nat) (h : N ≤ 15) (j : Nat) (hj : j ≤ 100) : (nthI (xI N h) j).s = xS N h ∧ (nthI (xI N h) j).I = j := by
  induction j with
  | zero => exact ⟨rfl, rfl⟩
  | succ j ih =>
    obtain ⟨h1, h2⟩ := ih (by omega)
    refine ⟨h1, ?_⟩
    show (if (nthI (xI N h) j).I = 9223372036854775807 then _ else (nthI (xI N h) j).I + 1) = _
    rw [if_neg (by omega), h2]
    omega
theorem x_new (L : List Pick) {N : Nat} (hN : N ≤ 15) : (∀ e ∈ flatAt L N, ∀ j, j ≤ 100 → e.id.Lt (nthI (xI N hN) j)) ∧ (∀ j, j ≤ 100 → nthI (xI N hN) j ≠ zeroI) ∧ (∀ i j, i < j → j ≤ 100 → (nthI (xI N hN) i).Lt (nthI (xI N hN) j)) ∧ (∀ j, j ≤ 100 → nthI (xI N hN) j ∉ (flatAt L N).map El.id) := by
  have h1 : ∀ e ∈ flatAt L N, ∀ j, j ≤ 100 → e.id.Lt (nthI (xI N hN) j) := fun e he j hj => by
    have := flatAt_T L hN e he
    refine .inl (.inl ?_)
    rw [(nth_xI N hN j hj).1]
    show e.id.s.T < (N : Int) + 100
    omega
  refine ⟨h1, fun j hj e => ?_, fun i j hij hj => ?_, fun j hj h => ?_⟩
  · have h2 := (nth_xI N hN j hj).1
    rw [e] at h2
    have h3 := congrArg Stamp.T h2
    have h4 : (0 : Int) = (N : Int) + 100 := h3
    omega
  · obtain ⟨a1, a2⟩ := nth_xI N hN i (by omega)
    obtain ⟨b1, b2⟩ := nth_xI N hN j hj
    exact .inr ⟨a1.trans b1.symm, by omega⟩
  · obtain ⟨e, he, h2⟩ := List.mem_map.1 h
    have := h1 e he j hj
    rw [h2] at this
    exact idSTO.irrefl _ this
theorem insert_end {w0 w : World} {P : Nat → Prop} {p : Loc} {c : Nat} {O O' : List Nd} {gn : Id → Int} {L : List Pick} {N : Nat} (hN : N ≤ 15) {k m : Nat} {a : Id} {tx : ByteArray} (hm : m ≤ 4)
    (hS : Sht w0 P p c (flatAt L N) O (onAt L N) gn w) (htx : ofL (txt (seenO O (onAt L N) gn)) = tx) (hk : k ≤ tx.size) (ha : a = (behV (rowV O (onAt L N) gn) k).1)
    (hO' : OrderOf Id.Lt El.id El.af zeroI (fun e => e ∈ flatAt L N ++ flatOf a (xI N hN) (mos.take m)) O') :
    ofL (txt (seenO O' (onT (onAt L N) (xS N hN) 1) gn)) = (tx.extract 0 k ++ ofL (mos.take m).flatten) ++ tx.extract k tx.size ∧ cntR (rowV O' (onT (onAt L N) (xS N hN) 1) gn) = tx.size + (ofL (mos.take m).flatten).size := by
  obtain ⟨x1, x2, x3, x4⟩ := x_new L hN
  have hone := txt_one (seenO O (onAt L N) gn) (fun e he => flatAt_pc L N e (hS.seen he))
  have hts : tx.size = (seenO O (onAt L N) gn).length := by rw [← htx, ofL_size]; exact hone
  have hpl : (mos.take m).length ≤ 4 := by rw [List.length_take]; exact Nat.le_trans (Nat.min_le_left _ _) hm
  obtain ⟨A, B, hAB, hA, hnew⟩ := ins_seen (on' := onT (onAt L N) (xS N hN) 1) (k := k) (by omega) ha hS.order hS.names (fun e he j hj => x1 e he j (by omega)) (fun j hj => x2 j (by omega)) (fun i j hij hj => x3 i j hij (by omega)) hO'
    (fun e he => by
      unfold seenI onT
      rw [if_neg (fun h => by
        have h1 := flatAt_T L hN e he
        rw [h] at h1
        have : (xS N hN).T = (N : Int) + 100 := rfl
        omega)])
    (fun e he => by
      obtain ⟨j, hj, h1⟩ := flatOf_id _ _ _ e he
      have h2 := onAt_pos L N (xS N hN)
      have h3 := hS.gn0 (x4 j (by omega))
      rw [h1]
      unfold seenI onT
      rw [if_pos (nth_xI N hN j (by omega)).1, h3]
      simp
      omega)
  have hAt : (txt A).length = k := by
    rw [txt_one A (fun e he => flatAt_pc L N e (hS.seen (by rw [hAB]; exact List.mem_append_left _ he)))]
    exact hA
  have h1 : tx.extract 0 k = ofL (txt A) := by
    rw [← htx, hAB, txt_app, ofL_extract, List.drop_zero, Nat.sub_zero, List.take_append_of_le_length (by omega), List.take_of_length_le (by omega)]
  have h2 : tx.extract k tx.size = ofL (txt B) := by
    have h3 : tx = ofL (txt A ++ txt B) := by rw [← htx, hAB, txt_app]
    rw [h3, drop_head, List.drop_append, hAt, Nat.sub_self, List.drop_of_length_le (by omega)]
    rfl
  have hfl := flat_ones (mos_one m)
  refine ⟨?_, ?_⟩
  · rw [hnew, h1, h2, txt_app, txt_app, txt_flatOf, ofL_append, ofL_append, List.append_assoc]
  · rw [cnt_row, hnew, hts, hAB, ofL_size, hfl]
    simp only [List.length_append, flatOf_len]
    omega
end Go.Proofs.YtphapjbfaomblaaDoor
