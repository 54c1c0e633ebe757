/- The document's shelf: Put. -/
import Derived.Test.YtphapjbfaomblaaRE
import Derived.Test.YtphapjbfaomblaaSG
import Derived.Test.YtphapjbfaomblaaXS
namespace Go.Proofs.Ytphapjbfaomblaa
open Go Go.RowKit Go.Maps
theorem sz35 (w : World) : (sizeOf (Try.prog.elem 35)).run Try.prog w = .ok 3 w := by kernel_rfl
theorem ht35 : Try.prog.underlying 35 = some (.slice (Try.prog.elem 35)) := by kernel_rfl
theorem sz44 (w : World) : (sizeOf (Try.prog.elem 44)).run Try.prog w = .ok 1 w := by kernel_rfl
theorem ht44 : Try.prog.underlying 44 = some (.slice (Try.prog.elem 44)) := by kernel_rfl
theorem flat_drop {α : Type} {f : α → List Value} {k : Nat} (hf : ∀ x, (f x).length = k) (l : List α) (m : Nat) : (l.flatMap f).drop (m * k) = (l.drop m).flatMap f := by
  have h : l.flatMap f = (l.take m).flatMap f ++ (l.drop m).flatMap f := by rw [← List.flatMap_append, List.take_append_drop]
  have h2 := flat_take hf l m
  rw [← h2] at h
  have h3 := List.take_append_drop (m * k) (l.flatMap f)
  exact List.append_cancel_left (h3.trans h)
theorem own_low {w : World} {base base' : Nat} {e : TypeId} {K n : Nat} {v : Value} {xs : List Value} (h : w.ownsRow base e K v n xs) (hb : base' ≤ base) : w.ownsRow base' e K v n xs := by
  refine ⟨h.1, ?_⟩
  rcases h.2 with h1 | ⟨g, cap, cur, h1, h2, h3⟩
  · exact .inl h1
  · exact .inr ⟨g, cap, cur, h1, Nat.le_trans hb h2, h3⟩
theorem set2_cells {w : World} {g : Nat} {a b v u : Value} {t : TypeId} {fr : Nat × Nat} (h : w.heap[g]? = some (.cells #[a, b] t fr)) : ((w.setCell ⟨g, 0, none⟩ v).setCell ⟨g, 1, none⟩ u).heap[g]? = some (.cells #[v, u] t fr) := by
  simp [World.setCell, Array.getElem?_modify, h]
def RputPost (w : World) (rb : Nat) (vi vs : Value) (R : Row Id) (at_ : Int) (x : Id) (q : Bool) (e : Ending) (w' : World) : Prop :=
  e = .returned (.int .i64 (errP R at_ x)) ∧ ∃ vi' vs', RfIs w' rb vi' vs' (putV R at_ x q) ∧ Touch (fun k => k = rb) w w' ∧ SameOrNew w vi vi' ∧ SameOrNew w vs vs'
set_option maxRecDepth 100000 in
set_option maxHeartbeats 4000000 in
theorem rput_any {w : World} {rb : Nat} {vi vs : Value} {R : Row Id} (h : RfIs w rb vi vs R) (hlen : R.length ≤ 10000) (at_ : Int) (x : Id) (q : Bool) :
    Calls Try.prog 18 #[.pointer (some ⟨rb, 0, none⟩), .int .i64 at_, idV x, .bool q] w (RputPost w rb vi vs R at_ x q) := by
  obtain ⟨i0, hi, hz0, hz1, hz2⟩ := info_parts info_insId
  obtain ⟨j0, gi, gz0, gz1, gz2⟩ := info_parts info_insB
  obtain ⟨Ai, ci, rfl, hnci, hcmi⟩ := (Rd.of_own h.ids).form
  obtain ⟨As, cs, rfl, hncs, hcms⟩ := (Rd.of_own h.sn).form
  unfold maxLen at hcmi hcms
  obtain ⟨W0, hW0⟩ : ∃ W, w.alloc (.cells #[.int .i64 x.s.T, .int .i64 x.s.R, .int .i64 x.I] 33) = W := ⟨_, rfl⟩
  have hb0 : Below w.heap.size w W0 := by rw [← hW0]; exact (Below.refl _ w).alloc (Nat.le_refl _) _
  have hx0 : W0.heap[w.heap.size]? = some (.cells #[.int .i64 x.s.T, .int .i64 x.s.R, .int .i64 x.I] 33 (0, 0)) := by rw [← hW0]; exact heap_alloc_new w _
  have HH := Lib.hid (fun W (hW : Below w.heap.size w W) => h.below hW)
  have hsz : w.heap.size < W0.heap.size := (Array.getElem?_eq_some_iff.1 hx0).1
  have HX0 := Lib.hid (fun W (hW : Below W0.heap.size W0 W) => (hW.block w.heap.size hsz).trans hx0)
  have HC := Lib.hid (fun W (hW : Below w.heap.size w W) => (show W.cell? ⟨rb, 0, none⟩ = some (.slice Ai R.length ci) ∧ W.cell? ⟨rb, 1, none⟩ = some (.slice As R.length cs) from ⟨cell_of_row _ _ 0 _ _ _ (h.below hW).cell, cell_of_row _ _ 1 _ _ _ (h.below hW).cell⟩))
  obtain ⟨c0, c1⟩ := HC.out (w.alloc (.cells #[.int .i64 x.s.T, .int .i64 x.s.R, .int .i64 x.I] 33)) ((Below.refl _ w).alloc (Nat.le_refl _) _)
  have HA := Lib.hid (fun W (hW : Below w.heap.size w W) => rat_any (h.below hW) x)
  unfold idV at HA
  have HW0 := Lib.hid hW0
  have HB0 := Lib.hid hb0
  clear hW0 hb0 hx0 h hsz
  unfold idV
  by_cases h1 : at_ < 0
  · have HV := Lib.hid (show errP R at_ x = 100 from by unfold errP; rw [if_pos (.inl h1)])
    go_enter Try.func18, Try.ntmps18
    go_wp2
    rw [HW0.out]
    go_ret
    unfold RputPost putV
    rw [HV.out]
    exact ⟨rfl, _, _, HH.out W0 HB0.out, Below.touch (HB0.out) _, .inl rfl, .inl rfl⟩
  · by_cases h2 : (R.length : Int) < at_
    · have HV := Lib.hid (show errP R at_ x = 100 from by unfold errP; rw [if_pos (.inr h2)])
      go_enter Try.func18, Try.ntmps18
      go_wp2
      rw [HW0.out]
      go_ret
      unfold RputPost putV
      rw [HV.out]
      exact ⟨rfl, _, _, HH.out W0 HB0.out, Below.touch (HB0.out) _, .inl rfl, .inl rfl⟩
    · obtain ⟨a, rfl⟩ : ∃ a : Nat, at_ = (a : Int) := ⟨at_.toNat, by omega⟩
      have ha : a ≤ R.length := by omega
      by_cases hx : x ∈ namesR R
      · have HV := Lib.hid (show errP R (a : Int) x = 110 from by unfold errP; rw [if_neg (by omega), if_pos hx])
        have HX := Lib.hid hx
        have HI := Lib.hid (show ¬ ((ixR R x : Int) < 0) from by omega)
        have i1 : (0 : Int) ≤ (ixR R x : Int) := by omega
        clear hx
        go_enter Try.func18, Try.ntmps18
        go_wp2_with (go_at_call 30; rw [HW0.out]; refine (HA.out _ HB0.out).mono ?_; rintro e w1 ⟨⟨r, rfl, hr⟩, hgr⟩; obtain rfl := at_ix hr HX.out; have HG := Lib.hid (HB0.out.trans (hgr.below.mono HB0.out.size)); clear hr hgr)
        go_ret
        unfold RputPost putV
        rw [HV.out]
        exact ⟨rfl, _, _, HH.out _ HG.out, Below.touch (HG.out) _, .inl rfl, .inl rfl⟩
      · have HV := Lib.hid (show errP R (a : Int) x = 0 from by unfold errP; rw [if_neg (by omega), if_neg hx])
        have HX := Lib.hid hx
        have HR1 := Lib.hid (fun r (hr : AtIs (namesR R) x r) => (show r = -1 from by
          rcases hr with ⟨k, hk, _, h2, _⟩ | ⟨h1, _⟩
          · exact absurd (h2 ▸ List.getElem_mem hk) HX.out
          · exact h1))
        clear hx
        have HRi := Lib.hid (fun W (hW : Below w.heap.size w W) => Rd.of_own (HH.out W hW).ids)
        have HRs := Lib.hid (fun W (hW : Below w.heap.size w W) => Rd.of_own (HH.out W hW).sn)
        have HRiT := Lib.hid (fun W (hW : Below w.heap.size w W) => flat_take (f := idC) (k := 3) (fun _ => rfl) (namesR R) a ▸ (HRi.out W hW).taken (m := a) ha)
        have HRsT := Lib.hid (fun W (hW : Below w.heap.size w W) => flat_take (f := boC) (k := 1) (fun _ => rfl) (seenR R) a ▸ (HRs.out W hW).taken (m := a) ha)
        have i1 : (a : Int) ≤ (R.length : Int) := by omega
        have i2 : (0 : Int) ≤ (a : Int) := by omega
        have i3 : (a : Int) ≤ (ci : Int) := by omega
        have i4 : (a : Int) ≤ (cs : Int) := by omega
        go_enter Try.func18, Try.ntmps18
        go_wp2_with (first
          | (go_at_call 30; rw [HW0.out]; refine (HA.out _ HB0.out).mono ?_; rintro e w1 ⟨⟨r, rfl, hr⟩, hgr⟩; obtain rfl := HR1.out r hr; have HG := Lib.hid (HB0.out.trans (hgr.below.mono HB0.out.size)); have HG0 := Lib.hid (hgr.below); obtain ⟨d0, d1⟩ := HC.out w1 HG.out; clear hr hgr)
          | (at_builtin; refine wpList_append_rd rfl _ _ 35 rfl w.heap.size 33 i0 _ 3 24 Try.underlying35 hi hz0 hz1 hz2 rfl (by decide) _ 0 [] rfl (World.ownsRow_nil _ _ _ _) _ w1.heap.size a (((namesR R).take a).flatMap idC) rfl (HRiT.out w1 HG.out) (flat_one_insId _) (by unfold maxLen; omega) (by omega) HG.out.size ?_))
        intro v2 w2 hown2 hgrow2
        have hb2 : Below w.heap.size w w2 := HG.out.grown hgrow2 (Nat.le_trans HG.out.size (Nat.le_refl _)) (fun j hj => by simp [Value.ownBlock] at hj)
        have HO2 := Lib.hid (show w2.ownsRow w.heap.size 33 3 v2 a (((namesR R).take a).flatMap idC) by simpa using hown2)
        have HB2 := Lib.hid hb2
        obtain ⟨A2, cc2, rfl, _, _⟩ := (Rd.of_own HO2.out).form
        have hw1 : Below W0.heap.size W0 w2 := HG0.out.trans ((Below.refl w1.heap.size w1).grown hgrow2 (Nat.le_refl _) (fun j hj => by simp [Value.ownBlock] at hj) |>.mono HG0.out.size)
        have hxx := HX0.out w2 hw1
        clear hown2 hgrow2 hb2 d0 d1 c0 c1 hw1
        have hx2 : w2.cell? ⟨w.heap.size, 0, none⟩ = some (.int .i64 x.s.T) := cell_of_row _ _ 0 _ _ _ hxx
        have hx3 : w2.cell? ⟨w.heap.size, 1, none⟩ = some (.int .i64 x.s.R) := cell_of_row _ _ 1 _ _ _ hxx
        have hx4 : w2.cell? ⟨w.heap.size, 2, none⟩ = some (.int .i64 x.I) := cell_of_row _ _ 2 _ _ _ hxx
        clear hxx
        go_wp2_with (at_builtin; refine wpList_append_own _ rfl _ _ 35 rfl w.heap.size 33 i0 _ 3 24 Try.underlying35 hi hz0 hz1 hz2 rfl (by decide) _ a (((namesR R).take a).flatMap idC) rfl (HO2.out.alloc (.cells #[.int .i64 x.s.T, .int .i64 x.s.R, .int .i64 x.I] 33)) ⟨w2.heap.size, 0, none⟩ 1 1 (idC x) rfl rfl (cells_new w2 (idC x) 33) (by simp [idC, Value.oneCell']) (by unfold maxLen; omega) (by omega) (by have := HB2.out.size; simp; omega) ?_)
        intro v3 w3 hown3 hgrow3 _
        have hb3 : Below w.heap.size w w3 := (HB2.out.alloc HB2.out.size _).grown hgrow3 (by have := HB2.out.size; simp; omega) (fun j hj => (HO2.out.lt j hj).1)
        have HO3 := Lib.hid hown3
        have HB3 := Lib.hid hb3
        obtain ⟨A3, cc3, rfl, _, _⟩ := (Rd.of_own HO3.out).form
        obtain ⟨d0, d1⟩ := HC.out w3 hb3
        clear hown3 hgrow3 hb3 hx2 hx3 hx4
        go_wp2_with (first
          | (refine wpList_slice_from rfl _ _ 35 rfl ht35 3 (sz35 _) .i64 _ _ _ a w3.heap.size _ rfl rfl (HRi.out w3 HB3.out) ha ?_; intro A4 c4 hR4; rw [flat_drop (f := idC) (k := 3) (fun _ => rfl)] at hR4; have HR4 := Lib.hid hR4; clear hR4)
          | (at_builtin; refine wpList_append_rd rfl _ _ 35 rfl w.heap.size 33 i0 _ 3 24 Try.underlying35 hi hz0 hz1 hz2 rfl (by decide) _ (a + 1) (((namesR R).take a).flatMap idC ++ idC x) rfl HO3.out _ w3.heap.size (R.length - a) (((namesR R).drop a).flatMap idC) rfl HR4.out (flat_one_insId _) (by unfold maxLen; omega) (by omega) HB3.out.size ?_))
        intro v5 w5 hown5 hgrow5
        have hb5 : Below w.heap.size w w5 := HB3.out.grown hgrow5 HB3.out.size (fun j hj => (HO3.out.lt j hj).1)
        have HO5 := Lib.hid hown5
        have HB5 := Lib.hid hb5
        obtain ⟨A5, c5, rfl, _, _⟩ := (Rd.of_own HO5.out).form
        obtain ⟨y0, y1⟩ := HC.out w5 hb5
        clear hown5 hgrow5 hb5 d0 d1
        go_wp2_with (at_builtin; refine wpList_append_rd rfl _ _ 44 rfl w5.heap.size 4 j0 _ 1 1 Try.underlying44 gi gz0 gz1 gz2 rfl (by decide) _ 0 [] rfl (World.ownsRow_nil _ _ _ _) _ w5.heap.size a (((seenR R).take a).flatMap boC) rfl (HRsT.out w5 HB5.out) (flat_one_insB _) (by unfold maxLen; omega) (by omega) (Nat.le_refl _) ?_)
        intro v6 w6 hown6 hgrow6
        have hb6 : Below w5.heap.size w5 w6 := (Below.refl _ w5).grown hgrow6 (Nat.le_refl _) (fun j hj => by simp [Value.ownBlock] at hj)
        have HO6 := Lib.hid (show w6.ownsRow w5.heap.size 4 1 v6 a (((seenR R).take a).flatMap boC) by simpa using hown6)
        have HB6 := Lib.hid hb6
        obtain ⟨A6, c6, rfl, _, _⟩ := (Rd.of_own HO6.out).form
        clear hown6 hgrow6 hb6 y0 y1
        go_wp2_with (at_builtin; refine wpList_append_own _ rfl _ _ 44 rfl w5.heap.size 4 j0 _ 1 1 Try.underlying44 gi gz0 gz1 gz2 rfl (by decide) _ a (((seenR R).take a).flatMap boC) rfl (HO6.out.alloc (.cells #[.bool q] 4)) ⟨w6.heap.size, 0, none⟩ 1 1 (boC q) rfl rfl (cells_new w6 (boC q) 4) (by simp [boC, Value.oneCell']) (by unfold maxLen; omega) (by omega) (by have := HB6.out.size; simp; omega) ?_)
        intro v7 w7 hown7 hgrow7 _
        have hb7 : Below w5.heap.size w5 w7 := (HB6.out.alloc HB6.out.size _).grown hgrow7 (by have := HB6.out.size; simp; omega) (fun j hj => (HO6.out.lt j hj).1)
        have HO7 := Lib.hid hown7
        have HB7 := Lib.hid hb7
        obtain ⟨A7, c7, rfl, _, _⟩ := (Rd.of_own HO7.out).form
        have HB7w := Lib.hid (HB5.out.trans (HB7.out.mono HB5.out.size))
        obtain ⟨z0, z1⟩ := HC.out w7 HB7w.out
        clear hown7 hgrow7 hb7
        go_wp2_with (first
          | (refine wpList_slice_from rfl _ _ 44 rfl ht44 1 (sz44 _) .i64 _ _ _ a w7.heap.size _ rfl rfl (HRs.out w7 HB7w.out) ha ?_; intro A8 c8 hR8; rw [flat_drop (f := boC) (k := 1) (fun _ => rfl)] at hR8; have HR8 := Lib.hid hR8; clear hR8)
          | (at_builtin; refine wpList_append_rd rfl _ _ 44 rfl w5.heap.size 4 j0 _ 1 1 Try.underlying44 gi gz0 gz1 gz2 rfl (by decide) _ (a + 1) (((seenR R).take a).flatMap boC ++ boC q) rfl HO7.out _ w7.heap.size (R.length - a) (((seenR R).drop a).flatMap boC) rfl HR8.out (flat_one_insB _) (by unfold maxLen; omega) (by omega) HB7.out.size ?_))
        intro v9 w9 hown9 hgrow9
        have hb9 : Below w5.heap.size w5 w9 := HB7.out.grown hgrow9 HB7.out.size (fun j hj => (HO7.out.lt j hj).1)
        have HO9 := Lib.hid hown9
        have HB9 := Lib.hid hb9
        obtain ⟨A9, c9, rfl, _, _⟩ := (Rd.of_own HO9.out).form
        have HB9w := Lib.hid (HB5.out.trans (HB9.out.mono HB5.out.size))
        have HCE := Lib.hid ((HH.out w9 HB9w.out).cell)
        obtain ⟨u0, u1⟩ := HC.out w9 HB9w.out
        have uf : ∀ i, w9.frozen? ⟨rb, i, none⟩ = false := fun i => by simp [World.frozen?, HCE.out]
        clear hown9 hgrow9 hb9 z0 z1
        go_wp2
        go_ret
        have hlen2 : a + 1 + (R.length - a) = R.length + 1 := by omega
        have hpl : (putR R a x q).length = R.length + 1 := putR_len _ _ _ _ ha
        have hts : Touch (fun k => k = rb) w9 ((w9.setCell ⟨rb, 0, none⟩ (.slice A5 (a + 1 + (R.length - a)) c5)).setCell ⟨rb, 1, none⟩ (.slice A9 (a + 1 + (R.length - a)) c9)) := ((Touch.refl (fun k => k = rb) w9).setCell (p := ⟨rb, 0, none⟩) (fun _ => rfl) _).setCell (p := ⟨rb, 1, none⟩) (fun _ => rfl) _
        have hO5 := own_grows HO5.out (HB9.out)
        have hkr := kind_cell HCE.out
        refine ⟨by rw [HV.out]; rfl, .slice A5 (a + 1 + (R.length - a)) c5, .slice A9 (a + 1 + (R.length - a)) c9, ⟨set2_cells HCE.out, ?_, ?_⟩, (Below.touch HB9w.out _).trans hts (fun _ _ h => h), .inr (fun g hg => (HO5.out.lt g hg).1), .inr (fun g hg => Nat.le_trans HB5.out.size (HO9.out.lt g hg).1)⟩
        · have h := own_low (own_touch hO5 hts (fun g hg => ne_kind (kind_row hO5 hg) hkr (by decide))) (Nat.zero_le _)
          unfold putV
          rw [if_pos HV.out, Int.toNat_natCast, hpl, ← hlen2, names_put]
          simpa using h
        · have h := own_low (own_touch HO9.out hts (fun g hg => ne_kind (kind_row HO9.out hg) hkr (by decide))) (Nat.zero_le _)
          unfold putV
          rw [if_pos HV.out, Int.toNat_natCast, hpl, ← hlen2, seen_put]
          simpa using h
end Go.Proofs.Ytphapjbfaomblaa
