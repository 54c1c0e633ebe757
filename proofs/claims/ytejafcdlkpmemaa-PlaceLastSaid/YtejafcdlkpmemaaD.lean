/- The document's Of: the stamps of a node's dots that count. -/
import Derived.Test.YtejafcdlkpmemaaC
namespace Go.Proofs.Ytejafcdlkpmemaa
open Go Go.RowKit
def ofMem (have_ gone : List Dot) (x : Id) (k : Nat) (y : Stamp) : Prop := ∃ d ∈ have_.take k, d.n = x ∧ d ∉ gone ∧ d.b = y
def OfRel (have_ gone : List Dot) (x : Id) (w : World) (out i : Value) (wr : World) : Prop :=
  ∃ k : Nat, k ≤ have_.length ∧ i = .int .i64 k ∧ ∃ L : List Stamp, wr.ownsRow w.heap.size 24 2 out L.length (L.flatMap stC) ∧ L.Pairwise Stamp.Lt ∧ (∀ y, y ∈ L ↔ ofMem have_ gone x k y) ∧ L.length ≤ k ∧ Below w.heap.size w wr
theorem of_zero (have_ gone : List Dot) (x : Id) (y : Stamp) : ¬ ofMem have_ gone x 0 y := by rintro ⟨d, h, _⟩; simp at h
theorem of_no {have_ gone : List Dot} {x : Id} {k : Nat} (h : k < have_.length) (hn : have_[k].n = x → have_[k] ∈ gone) (y : Stamp) : ofMem have_ gone x (k + 1) y ↔ ofMem have_ gone x k y := by
  unfold ofMem
  constructor
  · rintro ⟨d, hd, h0, h1, h2⟩
    rcases (mem_take_succ h d).1 hd with hd | rfl
    · exact ⟨d, hd, h0, h1, h2⟩
    · exact absurd (hn h0) h1
  · rintro ⟨d, hd, h1, h2⟩
    exact ⟨d, (mem_take_succ h d).2 (.inl hd), h1, h2⟩
theorem of_yes {have_ gone : List Dot} {x : Id} {k : Nat} (h : k < have_.length) (hx : have_[k].n = x) (hn : have_[k] ∉ gone) (y : Stamp) : ofMem have_ gone x (k + 1) y ↔ y = have_[k].b ∨ ofMem have_ gone x k y := by
  unfold ofMem
  constructor
  · rintro ⟨d, hd, h0, h1, h2⟩
    rcases (mem_take_succ h d).1 hd with hd | rfl
    · exact .inr ⟨d, hd, h0, h1, h2⟩
    · exact .inl h2.symm
  · rintro (rfl | ⟨d, hd, h1, h2⟩)
    · exact ⟨_, (mem_take_succ h _).2 (.inr rfl), hx, hn, rfl⟩
    · exact ⟨d, (mem_take_succ h d).2 (.inl hd), h1, h2⟩
def OfPost (have_ gone : List Dot) (x : Id) (w : World) (e : Ending) (w' : World) : Prop :=
  ∃ (v : Value) (L : List Stamp), e = .returned v ∧ w'.ownsRow w.heap.size 24 2 v L.length (L.flatMap stC) ∧ L.Pairwise Stamp.Lt ∧ (∀ y, y ∈ L ↔ ofMem have_ gone x have_.length y) ∧ Below w.heap.size w w'
def InRelS (L : List Stamp) (x : Stamp) (n : Nat) (w : World) (v : Value) (i : Value) (wr : World) : Prop :=
  ∃ P S, L = P ++ S ∧ i = .int .i64 (P.length : Nat) ∧ (∀ y ∈ S, x.Lt y) ∧ wr.ownsRow w.heap.size 24 2 v n ((P ++ x :: S).flatMap stC) ∧ Below w.heap.size w wr
def swapS (w : World) (g j : Nat) (y x : Stamp) : World :=
  ((((w.setCell ⟨g, j * 2 + 2, none⟩ (.int .i64 y.T)).setCell ⟨g, j * 2 + 2 + 1, none⟩ (.int .i64 y.R)).setCell ⟨g, j * 2, none⟩ (.int .i64 x.T)).setCell ⟨g, j * 2 + 1, none⟩ (.int .i64 x.R)).drew
theorem swapS_eq (w : World) (g j : Nat) (y x : Stamp) : swapS w g j y x = ((w.setCells g (j * 2 + 2) (stC y)).setCells g (j * 2) (stC x)).drew := rfl
theorem swapS_own {w : World} {base : Nat} {n g cap j : Nat} {P S : List Stamp} {y x : Stamp} (hj : P.length = j) (h : w.ownsRow base 24 2 (.slice (some ⟨g, 0, none⟩) n cap) n ((P ++ y :: x :: S).flatMap stC)) (hn : 0 < n) :
    (swapS w g j y x).ownsRow base 24 2 (.slice (some ⟨g, 0, none⟩) n cap) n ((P ++ x :: y :: S).flatMap stC) := by
  have := own_swap (enc := stC) (k := 2) (fun _ => rfl) h hn
  rw [hj] at this
  rw [swapS_eq]
  exact own_drew this
theorem swapS_below {B : Nat} {a w : World} (h : Below B a w) {g : Nat} (hg : B ≤ g) (j : Nat) (y x : Stamp) : Below B a (swapS w g j y x) := by
  rw [swapS_eq]
  exact (setCells_below (setCells_below h hg _ _) hg _ _).drew
theorem of_step {have_ gone : List Dot} {x : Id} {k n : Nat} {w wr : World} {v : Value} {L P S : List Stamp} {d : Dot} (hlt : k < have_.length) (hyes : ∀ y, ofMem have_ gone x (k + 1) y ↔ y = d.b ∨ ofMem have_ gone x k y)
    (hS : L.Pairwise Stamp.Lt) (hM : ∀ y, y ∈ L ↔ ofMem have_ gone x k y) (hL : L.length ≤ k) (hn : L.length + 1 = n) (hni : d.b ∉ L) (hLe : L = P ++ S) (hSl : ∀ y ∈ S, d.b.Lt y) (hP : ∀ z, P.getLast? = some z → ¬ d.b.Lt z)
    (ho : wr.ownsRow w.heap.size 24 2 v n ((P ++ d.b :: S).flatMap stC)) (hb : Below w.heap.size w wr) : OfRel have_ gone x w v (.int .i64 ((k : Int) + 1)) wr := by
  have hlen : (P ++ d.b :: S).length = n := by rw [← hn, hLe]; simp; omega
  refine ⟨k + 1, hlt, by rfl, P ++ d.b :: S, by rw [hlen]; exact ho, ?_, fun y => ?_, by omega, hb⟩
  · exact sorted_put stampSTO (hLe ▸ hS) (hLe ▸ hni) hSl hP
  · rw [mem_put, hyes y, ← hLe, hM y]
theorem info24 : (Try.prog.info? 24).map (fun i => (i.zero, i.size, i.bytes)) = some (some (.agg #[.int .i64 0, .int .i64 0]), 2, 16) := by kernel_rfl
theorem own_base {w : World} {b b' : Nat} {e : TypeId} {K n : Nat} {v : Value} {xs : List Value} (h : w.ownsRow b e K v n xs) (hb : b' ≤ b) : w.ownsRow b' e K v n xs :=
  ⟨h.1, h.2.imp id fun ⟨g, cap, cur, e1, hg, r⟩ => ⟨g, cap, cur, e1, Nat.le_trans hb hg, r⟩⟩
theorem stC_one1 (x : Stamp) : ∀ u ∈ stC x, u.oneCell' = true := by
  intro u hu
  simp [stC] at hu
  rcases hu with rfl | rfl <;> rfl
set_option maxRecDepth 100000 in
set_option maxHeartbeats 4000000 in
theorem refOf_any (have_ gone : List Dot) (x : Id) (A A' : Option Addr) (n c n' c' B : Nat) (w : World) (hR : Rd w B 5 (.slice A n c) n (have_.flatMap dotC)) (hR' : Rd w B 5 (.slice A' n' c') n' (gone.flatMap dotC)) (hB : B ≤ w.heap.size) (hn : n ≤ 100000) :
    Calls Try.prog 24 #[.slice A n c, .slice A' n' c', idV x] w (OfPost have_ gone x w) := by
  obtain ⟨_, hnc, hcm⟩ := hR.len
  unfold maxLen at hcm
  obtain rfl := len_of dotC 5 (fun _ => rfl) (by decide) hR.1
  have HR0 := Lib.hid hR
  have HR0' := Lib.hid hR'
  clear hR hR'
  obtain ⟨i0, hi, hz0, hz1, hz2⟩ := info_parts info24
  unfold idV
  go_enter Try.func24, Try.ntmps24
  go_wp2
  obtain ⟨w1, hw1⟩ : ∃ W, w.alloc (.cells #[.int .i64 x.s.T, .int .i64 x.s.R, .int .i64 x.I] 26) = W := ⟨_, rfl⟩
  have hg0 : Grows w w1 := by rw [← hw1]; exact (Grows.refl w).alloc _
  have hbx : w1.heap[w.heap.size]? = some (.cells #[.int .i64 x.s.T, .int .i64 x.s.R, .int .i64 x.I] 26 (0, 0)) := by rw [← hw1]; exact heap_alloc_new w _
  have hsz : w1.heap.size = w.heap.size + 1 := by rw [← hw1, World.size_alloc]
  rw [hw1]
  have HW := Lib.hid hg0.below
  have HR := Lib.hid (HR0.out.below' hg0.below hB)
  have HR' := Lib.hid (HR0'.out.below' hg0.below hB)
  have hB1 : B ≤ w1.heap.size := by omega
  have hB2 : w.heap.size < w1.heap.size := by omega
  have HBX := Lib.hid hbx
  clear hw1 hg0 hbx HR0 HR0' hsz
  obtain ⟨bx, hbxe⟩ : ∃ bx, w.heap.size = bx := ⟨_, rfl⟩
  rw [hbxe] at HBX hB2 ⊢
  go_loopw [7, 8] (fun out i wr => OfRel have_ gone x w1 out i wr) (fun _ i _ => have_.length - (intOf i).toNat)
  case atStart => exact ⟨0, Nat.zero_le _, rfl, [], World.ownsRow_nil _ _ _ _, List.Pairwise.nil, fun y => by simp [of_zero], Nat.le_refl _, Below.refl _ _⟩
  case round =>
    obtain ⟨k, hk, rfl, L, hO, hS, hM, hL, hb⟩ := hrel
    obtain ⟨Av, cv, rfl, hLc, hcm2⟩ := (Rd.of_own hO).form
    have HO := Lib.hid hO
    have HS := Lib.hid hS
    have HM := Lib.hid hM
    clear hO hS hM
    obtain ⟨wo, rfl⟩ : ∃ wo : World, wo = wr := ⟨_, rfl⟩
    by_cases hlt : k < have_.length
    · obtain ⟨b, o, rfl, hB', hcell⟩ := rd_at dotC 5 (fun _ => rfl) (by decide) HR.out hlt
      have hbl : b < w1.heap.size := by omega
      have hbc : ∀ j u, (dotC have_[k])[j]? = some u → wo.cell? ⟨b, o + k * 5 + j, none⟩ = some u := fun j u hu => (hb.cell (p := ⟨b, o + k * 5 + j, none⟩) hbl).trans (hcell j u hu)
      have hxl : bx < w1.heap.size := hB2
      have hxo : wo.heap[bx]? = some (.cells #[.int .i64 x.s.T, .int .i64 x.s.R, .int .i64 x.I] 26 (0, 0)) := (hb.block _ hxl).trans HBX.out
      have HNo := Lib.hid (fun h => of_no (gone := gone) (x := x) hlt h)
      have HYes := Lib.hid (fun h => of_yes (gone := gone) (x := x) hlt h)
      obtain ⟨d, hd⟩ : ∃ d, have_[k] = d := ⟨_, rfl⟩
      rw [hd] at hbc HNo HYes
      clear hd
      have hwl : w1.heap.size ≤ wo.heap.size := hb.size
      have hbl2 : b < wo.heap.size := by omega
      have d0 : ∀ n os, (Sort.grow (wo.drewN n) os).cell? ⟨b, o + k * 5, none⟩ = some (.int .i64 d.n.s.T) := fun n os => cell_grown hbl2 (hbc 0 _ rfl) n os
      have d1 : ∀ n os, (Sort.grow (wo.drewN n) os).cell? ⟨b, o + k * 5 + 1, none⟩ = some (.int .i64 d.n.s.R) := fun n os => cell_grown hbl2 (hbc 1 _ rfl) n os
      have d2 : ∀ n os, (Sort.grow (wo.drewN n) os).cell? ⟨b, o + k * 5 + 2, none⟩ = some (.int .i64 d.n.I) := fun n os => cell_grown hbl2 (hbc 2 _ rfl) n os
      have d3 : ∀ n os, (Sort.grow (wo.drewN n) os).cell? ⟨b, o + k * 5 + 3, none⟩ = some (.int .i64 d.b.T) := fun n os => cell_grown hbl2 (hbc 3 _ rfl) n os
      have d4 : ∀ n os, (Sort.grow (wo.drewN n) os).cell? ⟨b, o + k * 5 + 4, none⟩ = some (.int .i64 d.b.R) := fun n os => cell_grown hbl2 (hbc 4 _ rfl) n os
      have x0 : ∀ n os, (Sort.grow (wo.drewN n) os).cell? ⟨bx, 0, none⟩ = some (.int .i64 x.s.T) := fun n os => row_grown hxo n os 0
      have x1 : ∀ n os, (Sort.grow (wo.drewN n) os).cell? ⟨bx, 1, none⟩ = some (.int .i64 x.s.R) := fun n os => row_grown hxo n os 1
      have x2 : ∀ n os, (Sort.grow (wo.drewN n) os).cell? ⟨bx, 2, none⟩ = some (.int .i64 x.I) := fun n os => row_grown hxo n os 2
      have hgb : ∀ n os, Below w1.heap.size w1 (Sort.grow (wo.drewN n) os) := fun n os => hb.trans ((Grows.below (show Grows wo _ from ⟨n, os, rfl⟩)).mono hwl)
      have HD := Lib.hid (fun n os => hasDot_any gone d A' n' c' B (Sort.grow (wo.drewN n) os) (HR'.out.below' (hgb n os) hB1) (Nat.le_trans hB1 (hgb n os).size))
      have HH := Lib.hid (fun n os => hasStamp_any L d.b Av L.length cv wo.heap.size (Sort.grow (wo.drewN n) os) ((Rd.of_own HO.out).below' (Grows.below (show Grows wo _ from ⟨n, os, rfl⟩)) (Nat.le_refl _)) (Grows.below (show Grows wo _ from ⟨n, os, rfl⟩)).size)
      unfold dotV at HD
      unfold stV at HH
      have HC := Lib.hid (fun j u (hu : (dotC d)[j]? = some u) => hbc j u hu)
      have HXO := Lib.hid hxo
      have hE := eq3_iff d.n x
      have hq := neq26
      have hgd := gd26
      have i1 : (0 : Int) ≤ (k : Int) := by omega
      have i2 : (k : Int) < (have_.length : Int) := by omega
      have hw : IntKind.i64.wrap (k : Int) = k := IntWalk.i64_in _ (by omega)
      clear hcell hbc hxo hgb
      by_cases hx : d.n = x
      · rw [decide_eq_true hx] at hE
        have HX := Lib.hid hx
        clear hx
        by_cases hgn : d ∈ gone
        · have HG := Lib.hid hgn
          rw [decide_eq_true hgn] at HD
          clear hgn
          go_wp2
          refine region_grown (by kernel_rfl) (by kernel_rfl) ?_
          repeat (quiet_step ((go_at_call 50; exact grown_of_grows (HD.out _ _))))
          refine wpQuiet_nil ?_
          rintro W ⟨⟨nq, osq⟩, hW⟩
          have hgW : Grows wo W := ⟨nq, osq, hW⟩
          have HBW := Lib.hid (hb.trans (hgW.below.mono hwl))
          have HOW := Lib.hid (own_grows HO.out hgW.below)
          clear hW hgW d0 d1 d2 d3 d4 x0 x1 x2 hb HO HD HH HXO HC
          go_wp2
          go_roundw
          case rel => exact ⟨k + 1, by omega, by go_num, L, HOW.out, HS.out, fun y => by rw [HNo.out fun _ => HG.out]; exact HM.out y, by omega, HBW.out⟩
          case measure => simp [intOf]; omega
        · have HG := Lib.hid hgn
          rw [decide_eq_false hgn] at HD
          clear hgn
          by_cases hin : d.b ∈ L
          · have HI := Lib.hid hin
            rw [decide_eq_true hin] at HH
            clear hin
            go_wp2
            refine region_grown (by kernel_rfl) (by kernel_rfl) ?_
            repeat (quiet_step (first | (go_at_call 50; exact grown_of_grows (HD.out _ _)) | (go_at_call 36; exact grown_of_grows (HH.out _ _))))
            refine wpQuiet_nil ?_
            rintro W ⟨⟨nq, osq⟩, hW⟩
            have hgW : Grows wo W := ⟨nq, osq, hW⟩
            have HBW := Lib.hid (hb.trans (hgW.below.mono hwl))
            have HOW := Lib.hid (own_grows HO.out hgW.below)
            clear hW hgW d0 d1 d2 d3 d4 x0 x1 x2 hb HO HD HH HXO HC
            go_wp2
            go_roundw
            case rel => exact ⟨k + 1, by omega, by go_num, L, HOW.out, HS.out, fun y => by
              rw [HYes.out HX.out HG.out, HM.out y]
              constructor
              · exact .inr
              · rintro (rfl | h)
                · exact (HM.out _).1 HI.out
                · exact h, by omega, HBW.out⟩
            case measure => simp [intOf]; omega
          · have HI := Lib.hid hin
            rw [decide_eq_false hin] at HH
            clear hin
            go_wp2
            refine region_grown (by kernel_rfl) (by kernel_rfl) ?_
            repeat (quiet_step (first | (go_at_call 50; exact grown_of_grows (HD.out _ _)) | (go_at_call 36; exact grown_of_grows (HH.out _ _))))
            refine wpQuiet_nil ?_
            rintro W ⟨⟨nq, osq⟩, hW⟩
            have hgW : Grows wo W := ⟨nq, osq, hW⟩
            have hb3 := hb.trans (hgW.below.mono hwl)
            have hO3 := Lib.hid (own_grows HO.out hgW.below)
            have e3 : W.cell? ⟨b, o + k * 5 + 3, none⟩ = some (.int .i64 d.b.T) := hW ▸ d3 nq osq
            have e4 : W.cell? ⟨b, o + k * 5 + 4, none⟩ = some (.int .i64 d.b.R) := hW ▸ d4 nq osq
            clear hW hgW d0 d1 d2 d3 d4 x0 x1 x2 hb HO HD HH HXO HC hE hq hgd
            go_wp2_with (at_builtin; refine wpList_append_own _ rfl _ _ 32 rfl w1.heap.size 24 i0 _ 2 16 Try.underlying32 hi hz0 hz1 hz2 rfl (by decide) _ _ _ rfl (hO3.out.alloc _) ⟨W.heap.size, 0, none⟩ 1 1 (stC d.b) rfl rfl ?qc2 (stC_one1 d.b) ?qc4 ?qc5 ?qc6 ?_)
            case qc2 => exact cells_new W (stC d.b) 24
            case qc4 => unfold maxLen; omega
            case qc5 => omega
            case qc6 => have := hb3.size; simp; omega
            intro v' W4 hown hgrow _
            obtain ⟨g, cap, rfl, hgB, hgc, hgm, ho4⟩ := own_snoc hown
            have hb4 : Below w1.heap.size w1 W4 := (hb3.alloc hb3.size _).grown hgrow (by have := hb3.size; simp; omega) (fun j hj => by
              rcases (hO3.out).lt j hj with ⟨h1, _⟩
              exact h1)
            clear hown
            obtain ⟨n1, hn1⟩ : ∃ n1, L.length + 1 = n1 := ⟨_, rfl⟩
            have hn1L : L.length < n1 := by omega
            have hn1k : n1 ≤ k + 1 := by omega
            rw [hn1] at ho4 hgc ⊢
            have HN1 := Lib.hid hn1
            have HO4 := Lib.hid ho4
            unfold maxLen at hgm
            clear hgrow ho4 hO3 hb3 hn1 e3 e4
            go_wp2
            go_loopw [9] (fun i wr => InRelS L d.b n1 w1 (.slice (some ⟨g, 0, none⟩) n1 cap) i wr) (fun i _ => (intOf i).toNat)
            case atStart => exact ⟨L, [], by simp, by have := HN1.out; congr 1; omega, by simp, HO4.out, hb4⟩
            case round =>
              obtain ⟨P, S, hLe, rfl, hSlt, hOr, hbr⟩ := hrel
              have HLe := Lib.hid hLe
              have HSl := Lib.hid hSlt
              have HOr := Lib.hid hOr
              have hgl : g < wr.heap.size := (hOr.lt g rfl).2
              clear hLe hSlt hOr hb4 HO4
              rcases list_snoc P with rfl | ⟨P', y, rfl⟩
              · go_wp2
                go_quiet (fail)
                go_wp2
                exact ⟨of_step hlt (HYes.out HX.out HG.out) HS.out HM.out hL HN1.out HI.out HLe.out HSl.out (by simp) (own_grows HOr.out ((Grows.refl wr).drewN nq).below) (hbr.trans (((Grows.refl wr).drewN nq).below.mono hbr.size)), by simp [intOf]; omega⟩
              · obtain ⟨j, hj⟩ : ∃ j, P'.length = j := ⟨_, rfl⟩
                have hkj : ((P' ++ [y]).length : Int) = (j : Int) + 1 := by rw [List.length_append, hj]; rfl
                rw [hkj]
                have hM : (P' ++ [y]) ++ d.b :: S = P' ++ y :: d.b :: S := by simp
                rw [hM] at HOr
                have hjl : j + 1 < n1 := by have := congrArg List.length HLe.out; simp at this; omega
                have cy : ∀ r u, (stC y)[r]? = some u → wr.cell? ⟨g, j * 2 + r, none⟩ = some u := fun r u hu => (own_cell HOr.out _ u (hj ▸ flat_mid stC 2 (fun _ => rfl) P' (d.b :: S) y r u hu)).1
                have cx : ∀ r u, (stC d.b)[r]? = some u → wr.cell? ⟨g, (j + 1) * 2 + r, none⟩ = some u := fun r u hu => (own_cell HOr.out _ u (by
                  have := flat_mid stC 2 (fun _ => rfl) (P' ++ [y]) S d.b r u hu
                  rw [List.length_append, hj] at this
                  simpa using this)).1
                have hk3 : (j + 1) * 2 = j * 2 + 2 := by omega
                rw [hk3] at cx
                have HJ := Lib.hid hj
                have HC := Lib.hid (fun w => before_any d.b y w)
                unfold stV at HC
                have a0 : ∀ n os, (Sort.grow (wr.drewN n) os).cell? ⟨g, j * 2, none⟩ = some (.int .i64 y.T) := fun n os => cell_grown hgl (cy 0 _ rfl) n os
                have a1 : ∀ n os, (Sort.grow (wr.drewN n) os).cell? ⟨g, j * 2 + 1, none⟩ = some (.int .i64 y.R) := fun n os => cell_grown hgl (cy 1 _ rfl) n os
                have b0 : ∀ n os, (Sort.grow (wr.drewN n) os).cell? ⟨g, j * 2 + 2, none⟩ = some (.int .i64 d.b.T) := fun n os => cell_grown hgl (cx 0 _ rfl) n os
                have b1 : ∀ n os, (Sort.grow (wr.drewN n) os).cell? ⟨g, j * 2 + 3, none⟩ = some (.int .i64 d.b.R) := fun n os => cell_grown hgl (cx 1 _ rfl) n os
                have i1 : (0 : Int) ≤ (j : Int) + 1 := by omega
                have i2 : (j : Int) + 1 < (n1 : Int) := by omega
                have i3 : (0 : Int) ≤ (j : Int) := by omega
                have i4 : (j : Int) < (n1 : Int) := by omega
                clear hj hkj hM cx cy
                by_cases hc : d.b.lt y = true
                · have HCn := Lib.hid hc
                  rw [hc] at HC
                  clear hc
                  have hw : IntKind.i64.wrap (j : Int) = j := IntWalk.i64_in _ (by omega)
                  go_wp2
                  refine region_grown (by kernel_rfl) (by kernel_rfl) ?_
                  repeat (quiet_step ((go_at_call 54; exact grown_of_grows (HC.out _))))
                  refine wpQuiet_nil ?_
                  rintro W ⟨⟨nq, osq⟩, hW⟩
                  have hgW : Grows wr W := ⟨nq, osq, hW⟩
                  have hbW := hbr.trans (hgW.below.mono hbr.size)
                  have hoW := own_grows HOr.out hgW.below
                  have A0 : W.cell? ⟨g, j * 2, none⟩ = some (.int .i64 y.T) := hW ▸ a0 nq osq
                  have A1 : W.cell? ⟨g, j * 2 + 1, none⟩ = some (.int .i64 y.R) := hW ▸ a1 nq osq
                  have B0 : W.cell? ⟨g, j * 2 + 2, none⟩ = some (.int .i64 d.b.T) := hW ▸ b0 nq osq
                  have B1 : W.cell? ⟨g, j * 2 + 3, none⟩ = some (.int .i64 d.b.R) := hW ▸ b1 nq osq
                  have hfz : ∀ i, W.frozen? ⟨g, i, none⟩ = false := own_frozen hoW (by omega)
                  have HOW := Lib.hid hoW
                  clear hW hgW hbr hoW a0 a1 b0 b1
                  go_wp2
                  go_region
                  have HSW := Lib.hid (swapS_own HJ.out HOW.out (by omega))
                  have HBW := Lib.hid (swapS_below hbW hgB j y d.b)
                  change Exit.inBlock _ _ _ _ (swapS W g j y d.b)
                  generalize swapS W g j y d.b = W5 at *
                  clear A0 A1 B0 B1 hfz HOW hbW
                  go_wp2
                  go_roundw
                  case rel =>
                    refine ⟨P', y :: S, ?_, ?_, ?_, ?_, ?_⟩
                    · rw [HLe.out]; simp
                    · rw [HJ.out]
                    · intro z hz
                      rcases List.mem_cons.1 hz with rfl | hz
                      · exact (slt_iff _ _).1 HCn.out
                      · exact HSl.out z hz
                    · exact HSW.out
                    · exact HBW.out
                  case measure => simp [intOf]
                · have HCn := Lib.hid hc
                  rw [show d.b.lt y = false from by simpa using hc] at HC
                  clear hc
                  have hw : IntKind.i64.wrap (j : Int) = j := IntWalk.i64_in _ (by omega)
                  go_wp2
                  refine region_grown (by kernel_rfl) (by kernel_rfl) ?_
                  repeat (quiet_step ((go_at_call 54; exact grown_of_grows (HC.out _))))
                  refine wpQuiet_nil ?_
                  rintro W ⟨⟨nq, osq⟩, hW⟩
                  have hgW : Grows wr W := ⟨nq, osq, hW⟩
                  have hbW := hbr.trans (hgW.below.mono hbr.size)
                  have HOW := Lib.hid (own_grows HOr.out hgW.below)
                  clear hW hgW hbr a0 a1 b0 b1
                  go_wp2
                  exact ⟨of_step (P := P' ++ [y]) (S := S) hlt (HYes.out HX.out HG.out) HS.out HM.out hL HN1.out HI.out HLe.out HSl.out (by
                    intro z hz
                    have : y = z := by simpa using hz
                    subst this
                    intro h
                    exact HCn.out ((slt_iff _ _).2 h)) (by simpa using HOW.out) hbW, by simp [intOf]; omega⟩
      · rw [decide_eq_false hx] at hE
        have HX := Lib.hid hx
        clear hx
        go_wp2
        refine region_grown (by kernel_rfl) (by kernel_rfl) ?_
        repeat (quiet_step (fail))
        refine wpQuiet_nil ?_
        rintro W ⟨⟨nq, osq⟩, hW⟩
        have hgW : Grows wo W := ⟨nq, osq, hW⟩
        have HBW := Lib.hid (hb.trans (hgW.below.mono hwl))
        have HOW := Lib.hid (own_grows HO.out hgW.below)
        clear hW hgW d0 d1 d2 d3 d4 x0 x1 x2 hb HO HD HH HXO HC
        go_wp2
        go_roundw
        case rel => exact ⟨k + 1, by omega, by go_num, L, HOW.out, HS.out, fun y => by rw [HNo.out fun h => absurd h HX.out]; exact HM.out y, by omega, HBW.out⟩
        case measure => simp [intOf]; omega
    · have hke : k = have_.length := by omega
      subst hke
      go_wp2
      go_ret
      exact ⟨_, L, rfl, own_base HO.out (by omega), HS.out, HM.out, HW.out.trans (hb.mono (by omega))⟩
end Go.Proofs.Ytejafcdlkpmemaa
