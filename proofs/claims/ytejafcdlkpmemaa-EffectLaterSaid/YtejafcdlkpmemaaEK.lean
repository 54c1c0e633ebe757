/- The document's sorted: the first head of each name, the latest first. -/
import Derived.Test.YtejafcdlkpmemaaEH
import Derived.Test.YtejafcdlkpmemaaEP3
import Derived.Test.YtejafcdlkpmemaaEJ
import Derived.BigRegion
import Derived.IntWalk
namespace Go.Proofs.Ytejafcdlkpmemaa
open Go Go.RowKit
theorem flipSTO : STO (fun a b : Stamp => b.Lt a) where
  irrefl a := stampSTO.irrefl a
  trans a b c h k := stampSTO.trans c b a k h
  total a b := by
    rcases stampSTO.total a b with h | h | h
    · exact .inr (.inr h)
    · exact .inr (.inl h)
    · exact .inl h
def Falls (L : List Head) : Prop := (L.map Head.nm).Pairwise (fun a b => b.Lt a)
theorem falls_put {P S : List Head} {x : Head} (h : Falls (P ++ S)) (hx : ∀ g ∈ P ++ S, g.nm ≠ x.nm) (hS : ∀ y ∈ S, y.nm.Lt x.nm) (hP : ∀ z, P.getLast? = some z → ¬ z.nm.Lt x.nm) : Falls (P ++ x :: S) := by
  unfold Falls at *
  rw [List.map_append] at h
  rw [List.map_append, List.map_cons]
  refine sorted_put flipSTO h ?_ ?_ ?_
  · intro hm
    rw [← List.map_append, List.mem_map] at hm
    obtain ⟨g, hg, e⟩ := hm
    exact hx g hg e
  · intro y hy
    obtain ⟨g, hg, rfl⟩ := List.mem_map.1 hy
    exact hS g hg
  · intro z hz
    rw [List.getLast?_map] at hz
    obtain ⟨g, hg, rfl⟩ := Option.map_eq_some_iff.1 hz
    exact hP g hg
def hadNm (L : List Head) (s : Stamp) : Bool := L.any (fun g => decide (g.nm = s))
theorem hadNm_false {L : List Head} {s : Stamp} (h : hadNm L s = false) : ∀ g ∈ L, g.nm ≠ s := fun g hg e => by
  have := List.any_eq_false.1 h g hg
  simp [e] at this
theorem hadNm_true {L : List Head} {s : Stamp} (h : hadNm L s = true) : ∃ g ∈ L, g.nm = s := by
  obtain ⟨g, hg, e⟩ := List.any_eq_true.1 h
  exact ⟨g, hg, by simpa using e⟩
theorem hadNm_succ {L : List Head} {j : Nat} (h : j < L.length) (s : Stamp) : hadNm (L.take (j + 1)) s = (hadNm (L.take j) s || decide (L[j].nm = s)) := by
  unfold hadNm
  rw [List.take_succ_eq_append_getElem h, List.any_append]
  simp
def SortRel (l : List Head) (w : World) (out i : Value) (wr : World) : Prop :=
  ∃ k : Nat, k ≤ l.length ∧ i = .int .i64 k ∧ ∃ L : List Head, wr.ownsRow w.heap.size 90 4 out L.length (L.flatMap hdC) ∧ Falls L ∧ (∀ h, h ∈ L ↔ First (l.take k) h) ∧ L.length ≤ k ∧ Below w.heap.size w wr
def SortPost (l : List Head) (w : World) (e : Ending) (w' : World) : Prop :=
  ∃ (v : Value) (L : List Head), e = .returned v ∧ w'.ownsRow w.heap.size 90 4 v L.length (L.flatMap hdC) ∧ Falls L ∧ (∀ h, h ∈ L ↔ First l h) ∧ L.length ≤ l.length ∧ Below w.heap.size w w'
def HadRel (L : List Head) (s : Stamp) (wo : World) (had i : Value) (wr : World) : Prop :=
  ∃ j : Nat, j ≤ L.length ∧ i = .int .i64 j ∧ had = .bool (hadNm (L.take j) s) ∧ ∃ q, wr = wo.drewN q
def InsRel (L : List Head) (x : Head) (n : Nat) (w : World) (v : Value) (i : Value) (wr : World) : Prop :=
  ∃ P S, L = P ++ S ∧ i = .int .i64 (P.length : Nat) ∧ (∀ y ∈ S, y.nm.Lt x.nm) ∧ wr.ownsRow w.heap.size 90 4 v n ((P ++ x :: S).flatMap hdC) ∧ Below w.heap.size w wr
def swapH (w : World) (g j : Nat) (y x : Head) : World :=
  ((((((((w.setCell ⟨g, j * 4 + 4, none⟩ (.int .i64 y.nm.T)).setCell ⟨g, j * 4 + 4 + 1, none⟩ (.int .i64 y.nm.R)).setCell ⟨g, j * 4 + 4 + 2, none⟩ (.int .i64 y.un.T)).setCell ⟨g, j * 4 + 4 + 3, none⟩ (.int .i64 y.un.R)).setCell ⟨g, j * 4, none⟩ (.int .i64 x.nm.T)).setCell ⟨g, j * 4 + 1, none⟩ (.int .i64 x.nm.R)).setCell ⟨g, j * 4 + 2, none⟩ (.int .i64 x.un.T)).setCell ⟨g, j * 4 + 3, none⟩ (.int .i64 x.un.R)).drew
theorem swapH_eq (w : World) (g j : Nat) (y x : Head) : swapH w g j y x = ((w.setCells g (j * 4 + 4) (hdC y)).setCells g (j * 4) (hdC x)).drew := rfl
theorem swapH_own {w : World} {base : Nat} {n g cap j : Nat} {P S : List Head} {y x : Head} (hj : P.length = j) (h : w.ownsRow base 90 4 (.slice (some ⟨g, 0, none⟩) n cap) n ((P ++ y :: x :: S).flatMap hdC)) (hn : 0 < n) :
    (swapH w g j y x).ownsRow base 90 4 (.slice (some ⟨g, 0, none⟩) n cap) n ((P ++ x :: y :: S).flatMap hdC) := by
  have := own_swap (enc := hdC) (k := 4) (fun _ => rfl) h hn
  rw [hj] at this
  rw [swapH_eq]
  exact own_drew this
theorem swapH_below {B : Nat} {a w : World} (h : Below B a w) {g : Nat} (hg : B ≤ g) (j : Nat) (y x : Head) : Below B a (swapH w g j y x) := by
  rw [swapH_eq]
  exact (setCells_below (setCells_below h hg _ _) hg _ _).drew
/-- the round's end: the new one stands where it belongs -/
theorem sort_step {l : List Head} {k n : Nat} {w wr : World} {v : Value} {L P S : List Head} {x : Head} (hlt : k < l.length) (hx : ∀ h, First (l.take (k + 1)) h ↔ First (l.take k) h ∨ h = x ∧ ∀ g ∈ l.take k, g.nm ≠ x.nm)
    (hS : Falls L) (hM : ∀ h, h ∈ L ↔ First (l.take k) h) (hL : L.length ≤ k) (hn : L.length + 1 = n) (hni : ∀ g ∈ l.take k, g.nm ≠ x.nm) (hLe : L = P ++ S) (hSl : ∀ y ∈ S, y.nm.Lt x.nm) (hP : ∀ z, P.getLast? = some z → ¬ z.nm.Lt x.nm)
    (ho : wr.ownsRow w.heap.size 90 4 v n ((P ++ x :: S).flatMap hdC)) (hb : Below w.heap.size w wr) : SortRel l w v (.int .i64 ((k : Int) + 1)) wr := by
  have hlen : (P ++ x :: S).length = n := by rw [← hn, hLe]; simp; omega
  refine ⟨k + 1, hlt, by rfl, P ++ x :: S, by rw [hlen]; exact ho, ?_, fun y => ?_, by omega, hb⟩
  · refine falls_put (hLe ▸ hS) (fun g hg => ?_) hSl hP
    exact hni g (first_mem ((hM g).1 (hLe ▸ hg)))
  · rw [mem_put, hx y, ← hLe, hM y]
    constructor
    · rintro (h | h)
      · exact .inr ⟨h, hni⟩
      · exact .inl h
    · rintro (h | ⟨h, _⟩)
      · exact .inr h
      · exact .inl h
set_option maxRecDepth 100000 in
set_option maxHeartbeats 8000000 in
theorem rsorted_any (l : List Head) (A : Option Addr) (n c B : Nat) (w : World) (hR : Rd w B 4 (.slice A n c) n (l.flatMap hdC)) (hB : B ≤ w.heap.size) (hn : n ≤ 100000) :
    Calls Try.prog 58 #[.slice A n c] w (SortPost l w) := by
  obtain rfl := len_of hdC 4 (fun _ => rfl) (by decide) hR.1
  have HR := Lib.hid hR
  clear hR
  obtain ⟨i0, hi, hz0, hz1, hz2⟩ := info_parts info90
  go_enter Try.func58, Try.ntmps58
  go_wp2
  go_loopw [3, 4] (fun out i wr => SortRel l w out i wr) (fun _ i _ => l.length - (intOf i).toNat)
  case atStart => exact ⟨0, Nat.zero_le _, rfl, [], World.ownsRow_nil _ _ _ _, List.Pairwise.nil, fun h => by simp [First], Nat.le_refl _, Below.refl _ _⟩
  case round =>
    obtain ⟨k, hk, rfl, L, hO, hS, hM, hL, hb⟩ := hrel
    obtain ⟨Av, cv, rfl, hLc, hcm2⟩ := (Rd.of_own hO).form
    have HO := Lib.hid hO
    have HS := Lib.hid hS
    have HM := Lib.hid hM
    clear hO hS hM
    obtain ⟨wo, rfl⟩ : ∃ wo : World, wo = wr := ⟨_, rfl⟩
    by_cases hlt : k < l.length
    · obtain ⟨b, o, rfl, hB', hcell⟩ := rd_at hdC 4 (fun _ => rfl) (by decide) HR.out hlt
      have hbl : b < w.heap.size := by omega
      have hbc : ∀ j u, (hdC l[k])[j]? = some u → wo.cell? ⟨b, o + k * 4 + j, none⟩ = some u := fun j u hu => (hb.cell (p := ⟨b, o + k * 4 + j, none⟩) hbl).trans (hcell j u hu)
      have hfs := first_snoc (l.take k) l[k]
      rw [← List.take_succ_eq_append_getElem hlt] at hfs
      obtain ⟨x, hx⟩ : ∃ x, l[k] = x := ⟨_, rfl⟩
      rw [hx] at hbc hfs
      have HFS := Lib.hid hfs
      clear hx hfs
      have d0 : wo.cell? ⟨b, o + k * 4, none⟩ = some (.int .i64 x.nm.T) := hbc 0 _ rfl
      have d1 : wo.cell? ⟨b, o + k * 4 + 1, none⟩ = some (.int .i64 x.nm.R) := hbc 1 _ rfl
      have d2 : wo.cell? ⟨b, o + k * 4 + 2, none⟩ = some (.int .i64 x.un.T) := hbc 2 _ rfl
      have d3 : wo.cell? ⟨b, o + k * 4 + 3, none⟩ = some (.int .i64 x.un.R) := hbc 3 _ rfl
      clear hcell hbc
      have i1 : (0 : Int) ≤ (k : Int) := by omega
      have i2 : (k : Int) < (l.length : Int) := by omega
      go_wp2
      go_loopw [5, 6] (fun had i wr => HadRel L x.nm wo had i wr) (fun _ i _ => L.length - (intOf i).toNat)
      case atStart => exact ⟨0, Nat.zero_le _, rfl, rfl, 0, rfl⟩
      case round =>
        obtain ⟨j, hj, rfl, rfl, q, rfl⟩ := hrel
        by_cases hjl : j < L.length
        · obtain ⟨g, og, rfl, hBg, hcg⟩ := rd_at hdC 4 (fun _ => rfl) (by decide) (Rd.of_own HO.out) hjl
          have e0 : wo.cell? ⟨g, og + j * 4, none⟩ = some (.int .i64 L[j].nm.T) := hcg 0 _ rfl
          have e1 : wo.cell? ⟨g, og + j * 4 + 1, none⟩ = some (.int .i64 L[j].nm.R) := hcg 1 _ rfl
          have hE := eq2_iff L[j].nm x.nm
          have hN := hadNm_succ hjl x.nm
          obtain ⟨y, hy⟩ : ∃ y, L[j] = y := ⟨_, rfl⟩
          rw [hy] at e0 e1 hE hN
          have HN := Lib.hid hN
          have j1 : (0 : Int) ≤ (j : Int) := by omega
          have j2 : (j : Int) < (L.length : Int) := by omega
          have hq := eql24
          have hgd := gd24
          clear hcg hy hN
          rcases hh : hadNm (L.take j) x.nm with _ | _
          · rw [hh] at HN
            obtain ⟨bb, hbb⟩ : ∃ bb, decide (y.nm = x.nm) = bb := ⟨_, rfl⟩
            rw [hbb] at hE HN
            clear hh hbb
            go_wp2
            go_quiet (fail)
            go_wp2
            go_roundw
            case rel => exact ⟨j + 1, by omega, by go_num, by rw [HN.out]; simp, q + nq, rfl⟩
            case measure => simp [intOf]; omega
          · rw [hh] at HN
            clear hh
            go_wp2
            go_quiet (fail)
            go_wp2
            go_roundw
            case rel => exact ⟨j + 1, by omega, by go_num, by rw [HN.out]; simp, q + nq, rfl⟩
            case measure => simp [intOf]; omega
        · obtain rfl : j = L.length := by omega
          rw [List.take_length]
          have hbq : Below w.heap.size w (wo.drewN q) := hb.trans (((Grows.refl wo).drewN q).below.mono hb.size)
          have hOq := Lib.hid (own_grows HO.out ((Grows.refl wo).drewN q).below)
          have q0 : (wo.drewN q).cell? ⟨b, o + k * 4, none⟩ = some (.int .i64 x.nm.T) := d0
          have q1 : (wo.drewN q).cell? ⟨b, o + k * 4 + 1, none⟩ = some (.int .i64 x.nm.R) := d1
          have q2 : (wo.drewN q).cell? ⟨b, o + k * 4 + 2, none⟩ = some (.int .i64 x.un.T) := d2
          have q3 : (wo.drewN q).cell? ⟨b, o + k * 4 + 3, none⟩ = some (.int .i64 x.un.R) := d3
          generalize wo.drewN q = W3 at *
          clear d0 d1 d2 d3 hb HO hcm2
          rcases hh : hadNm L x.nm with _ | _
          · have HNi := Lib.hid (show ∀ g ∈ l.take k, g.nm ≠ x.nm from fun g hg e => by
              obtain ⟨h, hf, he⟩ := first_exists hg
              exact hadNm_false hh h ((HM.out h).2 hf) (he.trans e))
            clear hh
            go_wp2_with (at_builtin; refine wpList_append_own _ rfl _ _ 42 rfl w.heap.size 90 i0 _ 4 32 Try.underlying42 hi hz0 hz1 hz2 rfl (by decide) _ _ _ rfl (hOq.out.alloc _) ⟨W3.heap.size, 0, none⟩ 1 1 (hdC x) rfl rfl ?qc2 (hdC_one x) ?qc4 ?qc5 ?qc6 ?_)
            case qc2 => exact cells_new W3 (hdC x) 90
            case qc4 => unfold maxLen; omega
            case qc5 => omega
            case qc6 => have := hbq.size; simp; omega
            intro v' W4 hown hgrow _
            obtain ⟨g, cap, rfl, hgB, hgc, hgm, ho4⟩ := own_snoc hown
            have hb4 : Below w.heap.size w W4 := (hbq.alloc hbq.size _).grown hgrow (by have := hbq.size; simp; omega) (fun j hj => by
              rcases (hOq.out).lt j hj with ⟨h1, _⟩
              exact h1)
            clear hown
            obtain ⟨n1, hn1⟩ : ∃ n1, L.length + 1 = n1 := ⟨_, rfl⟩
            have hn1L : L.length < n1 := by omega
            have hn1k : n1 ≤ k + 1 := by omega
            rw [hn1] at ho4 hgc ⊢
            have HN1 := Lib.hid hn1
            have HO4 := Lib.hid ho4
            unfold maxLen at hgm
            clear hgrow ho4 hOq hbq hn1 q0 q1 q2 q3
            go_wp2
            go_loopw [7] (fun i wr => InsRel L x n1 w (.slice (some ⟨g, 0, none⟩) n1 cap) i wr) (fun i _ => (intOf i).toNat)
            case atStart => exact ⟨L, [], by simp, by have := HN1.out; congr 1; omega, by simp, HO4.out, hb4⟩
            case round =>
              obtain ⟨P, S, hLe, rfl, hSlt, hOr, hbr⟩ := hrel
              have HLe := Lib.hid hLe
              have HSl := Lib.hid hSlt
              have HOr := Lib.hid hOr
              have hgl : g < wr.heap.size := (hOr.lt g rfl).2
              clear hLe hSlt hOr hb4 HO4
              rcases list_snoc P with rfl | ⟨P', y, rfl⟩
              · go_wp2
                go_quiet (fail)
                go_wp2
                exact ⟨sort_step hlt HFS.out HS.out HM.out hL HN1.out HNi.out HLe.out HSl.out (by simp) (own_grows HOr.out ((Grows.refl wr).drewN nq).below) (hbr.trans (((Grows.refl wr).drewN nq).below.mono hbr.size)), by simp [intOf]; omega⟩
              · obtain ⟨j, hj⟩ : ∃ j, P'.length = j := ⟨_, rfl⟩
                have hkj : ((P' ++ [y]).length : Int) = (j : Int) + 1 := by rw [List.length_append, hj]; rfl
                rw [hkj]
                have hM : (P' ++ [y]) ++ x :: S = P' ++ y :: x :: S := by simp
                rw [hM] at HOr
                have hjl : j + 1 < n1 := by have := congrArg List.length HLe.out; simp at this; omega
                have cy : ∀ r u, (hdC y)[r]? = some u → wr.cell? ⟨g, j * 4 + r, none⟩ = some u := fun r u hu => (own_cell HOr.out _ u (hj ▸ flat_mid hdC 4 (fun _ => rfl) P' (x :: S) y r u hu)).1
                have cx : ∀ r u, (hdC x)[r]? = some u → wr.cell? ⟨g, (j + 1) * 4 + r, none⟩ = some u := fun r u hu => (own_cell HOr.out _ u (by
                  have := flat_mid hdC 4 (fun _ => rfl) (P' ++ [y]) S x r u hu
                  rw [List.length_append, hj] at this
                  simpa using this)).1
                have hk3 : (j + 1) * 4 = j * 4 + 4 := by omega
                rw [hk3] at cx
                have HJ := Lib.hid hj
                have HC := Lib.hid (fun w => before_any y.nm x.nm w)
                unfold stV at HC
                have a0 : ∀ n os, (Sort.grow (wr.drewN n) os).cell? ⟨g, j * 4, none⟩ = some (.int .i64 y.nm.T) := fun n os => cell_grown hgl (cy 0 _ rfl) n os
                have a1 : ∀ n os, (Sort.grow (wr.drewN n) os).cell? ⟨g, j * 4 + 1, none⟩ = some (.int .i64 y.nm.R) := fun n os => cell_grown hgl (cy 1 _ rfl) n os
                have a2 : ∀ n os, (Sort.grow (wr.drewN n) os).cell? ⟨g, j * 4 + 2, none⟩ = some (.int .i64 y.un.T) := fun n os => cell_grown hgl (cy 2 _ rfl) n os
                have a3 : ∀ n os, (Sort.grow (wr.drewN n) os).cell? ⟨g, j * 4 + 3, none⟩ = some (.int .i64 y.un.R) := fun n os => cell_grown hgl (cy 3 _ rfl) n os
                have b0 : ∀ n os, (Sort.grow (wr.drewN n) os).cell? ⟨g, j * 4 + 4, none⟩ = some (.int .i64 x.nm.T) := fun n os => cell_grown hgl (cx 0 _ rfl) n os
                have b1 : ∀ n os, (Sort.grow (wr.drewN n) os).cell? ⟨g, j * 4 + 5, none⟩ = some (.int .i64 x.nm.R) := fun n os => cell_grown hgl (cx 1 _ rfl) n os
                have b2 : ∀ n os, (Sort.grow (wr.drewN n) os).cell? ⟨g, j * 4 + 6, none⟩ = some (.int .i64 x.un.T) := fun n os => cell_grown hgl (cx 2 _ rfl) n os
                have b3 : ∀ n os, (Sort.grow (wr.drewN n) os).cell? ⟨g, j * 4 + 7, none⟩ = some (.int .i64 x.un.R) := fun n os => cell_grown hgl (cx 3 _ rfl) n os
                have i3 : (0 : Int) ≤ (j : Int) + 1 := by omega
                have i4 : (j : Int) + 1 < (n1 : Int) := by omega
                have i5 : (0 : Int) ≤ (j : Int) := by omega
                have i6 : (j : Int) < (n1 : Int) := by omega
                have hw : IntKind.i64.wrap (j : Int) = j := IntWalk.i64_in _ (by omega)
                clear hj hkj hM cx cy
                rcases hc : y.nm.lt x.nm with _ | _
                · rw [hc] at HC
                  have HCn := Lib.hid hc
                  clear hc
                  go_wp2
                  refine region_grown (by kernel_rfl) (by kernel_rfl) ?_
                  repeat (quiet_step ((go_at_call 54; exact grown_of_grows (HC.out _))))
                  refine wpQuiet_nil ?_
                  rintro W ⟨⟨nq, osq⟩, hW⟩
                  have hgW : Grows wr W := ⟨nq, osq, hW⟩
                  have hbW := hbr.trans (hgW.below.mono hbr.size)
                  have HOW := Lib.hid (own_grows HOr.out hgW.below)
                  clear hW hgW hbr a0 a1 a2 a3 b0 b1 b2 b3
                  go_wp2
                  exact ⟨sort_step (P := P' ++ [y]) (S := S) hlt HFS.out HS.out HM.out hL HN1.out HNi.out HLe.out HSl.out (by
                    intro z hz
                    have : y = z := by simpa using hz
                    subst this
                    intro h
                    have h2 := (slt_iff _ _).2 h
                    rw [HCn.out] at h2
                    cases h2) (by simpa using HOW.out) hbW, by simp [intOf]; omega⟩
                · rw [hc] at HC
                  have HCn := Lib.hid hc
                  clear hc
                  go_wp2
                  refine region_grown (by kernel_rfl) (by kernel_rfl) ?_
                  repeat (quiet_step ((go_at_call 54; exact grown_of_grows (HC.out _))))
                  refine wpQuiet_nil ?_
                  rintro W ⟨⟨nq, osq⟩, hW⟩
                  have hgW : Grows wr W := ⟨nq, osq, hW⟩
                  have hbW := hbr.trans (hgW.below.mono hbr.size)
                  have hoW := own_grows HOr.out hgW.below
                  have A0 : W.cell? ⟨g, j * 4, none⟩ = some (.int .i64 y.nm.T) := hW ▸ a0 nq osq
                  have A1 : W.cell? ⟨g, j * 4 + 1, none⟩ = some (.int .i64 y.nm.R) := hW ▸ a1 nq osq
                  have A2 : W.cell? ⟨g, j * 4 + 2, none⟩ = some (.int .i64 y.un.T) := hW ▸ a2 nq osq
                  have A3 : W.cell? ⟨g, j * 4 + 3, none⟩ = some (.int .i64 y.un.R) := hW ▸ a3 nq osq
                  have B0 : W.cell? ⟨g, j * 4 + 4, none⟩ = some (.int .i64 x.nm.T) := hW ▸ b0 nq osq
                  have B1 : W.cell? ⟨g, j * 4 + 5, none⟩ = some (.int .i64 x.nm.R) := hW ▸ b1 nq osq
                  have B2 : W.cell? ⟨g, j * 4 + 6, none⟩ = some (.int .i64 x.un.T) := hW ▸ b2 nq osq
                  have B3 : W.cell? ⟨g, j * 4 + 7, none⟩ = some (.int .i64 x.un.R) := hW ▸ b3 nq osq
                  have hfz : ∀ i, W.frozen? ⟨g, i, none⟩ = false := own_frozen hoW (by omega)
                  have HOW := Lib.hid hoW
                  clear hW hgW hbr hoW a0 a1 a2 a3 b0 b1 b2 b3
                  go_wp2
                  go_region
                  have HSW := Lib.hid (swapH_own HJ.out HOW.out (by omega))
                  have HBW := Lib.hid (swapH_below hbW hgB j y x)
                  change Exit.inBlock _ _ _ _ (swapH W g j y x)
                  generalize swapH W g j y x = W5 at *
                  clear A0 A1 A2 A3 B0 B1 B2 B3 hfz HOW hbW
                  go_wp2
                  go_roundw
                  case rel =>
                    refine ⟨P', y :: S, ?_, ?_, ?_, ?_, ?_⟩
                    · rw [HLe.out]; simp
                    · rw [HJ.out]
                    · intro z hz
                      rcases List.mem_cons.1 hz with rfl | hz
                      · exact (slt_iff _ _).1 HCn.out
                      · exact HSl.out z hz
                    · exact HSW.out
                    · exact HBW.out
                  case measure => simp [intOf]
          · obtain ⟨g0, hg0, he0⟩ := hadNm_true hh
            have HNi := Lib.hid (show ¬ ∀ g ∈ l.take k, g.nm ≠ x.nm from fun h => h g0 (first_mem ((HM.out g0).1 hg0)) he0)
            clear hh hg0 he0
            go_wp2
            go_roundw
            case rel => exact ⟨k + 1, by omega, by go_num, L, hOq.out, HS.out, fun h => by
              rw [HFS.out h, HM.out h]
              exact ⟨.inl, fun h1 => h1.elim id fun h2 => absurd h2.2 HNi.out⟩, by omega, hbq⟩
            case measure => simp [intOf]; omega
    · have hke : k = l.length := by omega
      subst hke
      go_wp2
      go_ret
      exact ⟨_, L, rfl, HO.out, HS.out, fun h => by rw [HM.out h, List.take_length], hL, hb⟩
end Go.Proofs.Ytejafcdlkpmemaa
