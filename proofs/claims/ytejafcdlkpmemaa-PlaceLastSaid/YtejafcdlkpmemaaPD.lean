/- The program's Replay: where nodes are in the end. -/
import Derived.Test.YtejafcdlkpmemaaPC
import Derived.Deep.CutRange
namespace Go.Proofs.Ytejafcdlkpmemaa
open Go Go.RowKit Go.Maps Go.Shelf
theorem replay_take {T : List Told} {k : Nat} (h : k < T.length) : replayL (T.take (k + 1)) = pstep (replayL (T.take k)) T[k].p := by
  rw [List.take_succ_eq_append_getElem h, replayL_snoc]
theorem pstep_len {L : List Place} (h : Rises L) (p : Place) : (pstep L p).length ≤ L.length + 1 := by
  unfold pstep
  split
  · omega
  · rw [insertP_len h]; split <;> omega
theorem replay_len (T : List Told) : ∀ k, k ≤ T.length → (replayL (T.take k)).length ≤ k
  | 0, _ => by simp [replayL]
  | k + 1, h => by
    have h1 := replay_len T k (by omega)
    rw [replay_take (by omega)]
    have := pstep_len (replayL_rises (T.take k)) (T[k]'(by omega)).p
    omega
theorem gather_same {L P ys : List Place} (hL : Rises L) (hP : ∀ p ∈ P, p ∈ L) (hnd : (P.map Place.nd).Nodup) (hall : ∀ p ∈ L, p.nd ∈ P.map Place.nd) (hp : ys.Perm P) (hs : ys.Pairwise (fun a b => ¬ pcmp b a < 0)) : ys = L := by
  have hmem : ∀ p, p ∈ P ↔ p ∈ L := fun p => ⟨hP p, fun h => by
    obtain ⟨q, hq, e⟩ := List.mem_map.1 (hall p h)
    rw [← hL.unlike.eq (hP q hq) h e]
    exact hq⟩
  have hnd2 : (ys.map Place.nd).Nodup := (hp.map Place.nd).nodup_iff.2 hnd
  have hr : Rises ys := by
    unfold Rises
    have h1 : (ys.map Place.nd).Pairwise (fun a b => ¬ b.Lt a) := List.pairwise_map.2 (hs.imp fun {a b} h1 h2 => h1 ((icmp_id_neg _ _).2 h2))
    exact List.pairwise_map.1 (idSTO.strict h1 hnd2)
  exact sorted_same (lt := fun x y : Place => x.nd.Lt y.nd) (fun a => idSTO.irrefl a.nd) (fun a b c => idSTO.trans a.nd b.nd c.nd) hr hL (fun x => (hp.mem_iff).trans (hmem x))
theorem eq3_zero (a : Id) : eq3 a.s.T a.s.R a.I 0 0 0 = decide (a = zeroI) := eq3_id a zeroI
theorem withinGo_false {L : List Place} (n : Nat) (x up : Id) : withinF (pfind L) n x up = withinGo L n x up := (withinGo_eq L n x up).symm
theorem put_step {L : List Place} {p : Place} {D : DataW Place} {W : World} {bm m : Nat} (hL : Rises L) (hM : PlMap (pfind L) W bm m D) (hS : Maps.size D = L.length) (hno : ¬ (p.nd = zeroI ∨ withinGo L (L.length + 1) p.pa p.nd = true)) :
    FMap idK (pfind (pstep L p)) (D.put (idK p.nd) (.held (putDir (pfind L p.nd) p))) ∧ Maps.size (D.put (idK p.nd) (.held (putDir (pfind L p.nd) p))) = (pstep L p).length := by
  have hp : pstep L p = insertP p L := by unfold pstep; rw [if_neg hno]
  rw [hp]
  refine ⟨(hM.2.put ok26 hM.1.isMap p.nd (putDir (pfind L p.nd) p)).congr (fun s => (insertP_find hL s).symm), ?_⟩
  rw [Maps.size_put (hM.1.tidy keyed26), hM.2.has, hS, insertP_len hL]
  cases pfind L p.nd <;> simp
def ReplayPost (a : List Id) (b : List Place) (w : World) (e : Ending) (w' : World) : Prop :=
  ∃ (v : Value) (T : List Told), e = .returned v ∧ ToldOf (zipT a b) T ∧ T.length ≤ a.length ∧ w'.ownsRow w.heap.size 71 8 v (replayL T).length ((replayL T).flatMap plC) ∧ Below w.heap.size w w'
def ReRel1 (H : List Told) (v : Value) (bm b1 : Nat) (w : World) (i : Value) (wr : World) : Prop :=
  ∃ k : Nat, k ≤ H.length ∧ i = .int .i64 k ∧ ∃ (m : Nat) (D : DataW Place), m ≤ k ∧ PlMap (pfind (replayL (H.take k))) wr bm m D ∧ Maps.size D = (replayL (H.take k)).length ∧ wr.ownsRow b1 108 11 v H.length (H.flatMap toC) ∧ Below w.heap.size w wr ∧ w.heap.size < wr.heap.size
def ReRel2 (L : List Place) (D : DataW Place) (bm r m : Nat) (w : World) (out : Value) (wr : World) : Prop :=
  ∃ (left : Lit → Bool) (cnt : Nat) (P : List Place), wr.ranges Try.prog 26 (objElem plV) bm r m D left cnt ∧ P.length + cnt ≤ m ∧ Come idK D left (P.map Place.nd) ∧ (∀ p ∈ P, p ∈ L) ∧ wr.ownsRow w.heap.size 71 8 out P.length (P.flatMap plC) ∧ Below w.heap.size w wr
theorem fmap_come {f : Id → Option Place} {D : DataW Place} (hF : FMap idK f D) {x : Id} {p : Place} (hat : ∀ zd, D.atKey (idK x) zd = .held p) : f x = some p := by
  have h1 := hF x (.map [])
  rw [hat] at h1
  cases e : f x with
  | none => rw [e] at h1; cases h1
  | some q => rw [e] at h1; cases h1; rfl
theorem info71 : (Try.prog.info? 71).map (fun i => (i.zero, i.size, i.bytes)) = some (some (.agg #[.int .i64 0, .int .i64 0, .int .i64 0, .int .i64 0, .int .i64 0, .int .i64 0, .string ⟨#[]⟩, .bool false]), 8, 72) := by kernel_rfl
set_option maxRecDepth 100000 in
set_option maxHeartbeats 4000000 in
theorem replay_any (a : List Id) (b : List Place) (A A' : Option Addr) (n c n' c' B : Nat) (w : World) (hR : Rd w B 3 (.slice A n c) n (a.flatMap idC)) (hR' : Rd w B 8 (.slice A' n' c') n' (b.flatMap plC)) (hB : B ≤ w.heap.size) (hn : n ≤ 90000) :
    Calls Try.prog 39 #[.slice A n c, .slice A' n' c'] w (ReplayPost a b w) := by
  obtain rfl := len_of idC 3 (fun _ => rfl) (by decide) hR.1
  have HH1 := Lib.hid (fun W (hb : Below w.heap.size w W) => psorted_any a b A A' _ c n' c' B W (hR.below' hb hB) (hR'.below' hb hB) (Nat.le_trans hB hb.size) (by omega))
  clear hR hR'
  obtain ⟨i0, hi, hz0, hz1, hz2⟩ := info_parts info71
  have hmm := @run_makeMap Try.prog
  go_enter Try.func39, Try.ntmps39
  go_wp2_with fail
  obtain ⟨w1, hw1⟩ : ∃ W, w.alloc (.map #[] 0) = W := ⟨_, rfl⟩
  have hb1 : Below w.heap.size w w1 := by rw [← hw1]; exact ((Grows.refl w).alloc _).below
  have hm1 : w1.ownsMap Try.prog 26 (objElem plV) w.heap.size 0 (DataW.map ([] : List (Lit × DataW Place))) := by
    rw [← hw1]
    exact World.ownsMap_made (H := Place) w Try.prog 26 (objElem plV)
  have hs1 : w1.heap.size = w.heap.size + 1 := by rw [← hw1, World.size_alloc]
  rw [hw1]
  obtain ⟨bm, hbm⟩ : ∃ b, w.heap.size = b := ⟨_, rfl⟩
  rw [hbm] at hm1 ⊢
  have HBM := Lib.hid (show bm = w.heap.size ∧ w1.heap.size = w.heap.size + 1 by omega)
  clear hw1 hmm hs1 hbm
  refine (HH1.out _ hb1).mono ?_
  rintro e w2 ⟨v, H, rfl, hO, hS, hM, hl, hb⟩
  obtain ⟨A1, cc1, rfl, _, _⟩ := (Rd.of_own hO).form
  have HTO := Lib.hid (show ToldOf (zipT a b) H from ⟨hS, hM⟩)
  have HL := Lib.hid hl
  have hb2 : Below w.heap.size w w2 := hb1.trans (hb.mono hb1.size)
  have hm2 : w2.ownsMap Try.prog 26 (objElem plV) bm 0 (DataW.map ([] : List (Lit × DataW Place))) :=
    hm1.kept (row := none) ⟨hb.os, hb.tape, hb.output, hb.size, fun k hk _ => hb.block k hk⟩ (by simp)
  have hs2 : w.heap.size < w2.heap.size := by have := hb.size; have := HBM.out; omega
  obtain ⟨b1, hb1e⟩ : ∃ b, w1.heap.size = b := ⟨_, rfl⟩
  rw [hb1e] at hO
  have HB1 := Lib.hid (show b1 = bm + 1 ∧ bm = w.heap.size by have := HBM.out; omega)
  clear hS hM hl hb hb1 hm1 HH1 hb1e HBM
  go_wp2
  go_loopw [19] (fun i wr => ReRel1 H (.slice A1 H.length cc1) bm b1 w i wr) (fun i _ => H.length - (intOf i).toNat)
  case atStart => exact ⟨0, Nat.zero_le _, rfl, 0, _, Nat.le_refl _, ⟨hm2, (FMap.start idK).congr (fun s => by simp [replayL, pfind])⟩, rfl, hO, hb2, hs2⟩
  case round =>
    clear hm2 hO hb2 hs2
    obtain ⟨k, hk, rfl, m, D, hmk, hM, hSz, hO, hb, hsz⟩ := hrel
    have HM := Lib.hid hM
    have HO := Lib.hid hO
    have HSz := Lib.hid hSz
    clear hM hO hSz
    obtain ⟨wo, rfl⟩ : ∃ wo : World, wo = wr := ⟨_, rfl⟩
    obtain ⟨L, hLe⟩ : ∃ L, replayL (H.take k) = L := ⟨_, rfl⟩
    have hLr : Rises L := by rw [← hLe]; exact replayL_rises _
    have hLl : L.length ≤ k := by rw [← hLe]; exact replay_len H k hk
    rw [hLe] at HM HSz
    by_cases hlt : k < H.length
    · obtain ⟨bb, o, rfl, hBb, hcell⟩ := rd_at toC 11 (fun _ => rfl) (by decide) (Rd.of_own HO.out) hlt
      have hsn := replay_take hlt
      obtain ⟨t, ht⟩ : ∃ t, H[k] = t := ⟨_, rfl⟩
      rw [ht] at hcell hsn
      rw [hLe] at hsn
      obtain ⟨at_, p⟩ := t
      dsimp only at hsn
      have HSN := Lib.hid hsn
      have HLR := Lib.hid hLr
      have c0 := hcell 0 _ rfl
      have c1 := hcell 1 _ rfl
      have c2 := hcell 2 _ rfl
      have c3 := hcell 3 _ rfl
      have c4 := hcell 4 _ rfl
      have c5 := hcell 5 _ rfl
      have c6 := hcell 6 _ rfl
      have c7 := hcell 7 _ rfl
      have c8 := hcell 8 _ rfl
      have c9 := hcell 9 _ rfl
      have c10 := hcell 10 _ rfl
      simp only [Nat.add_zero] at c0
      clear hcell ht hsn hLe hLr
      have i1 : (0 : Int) ≤ (k : Int) := by omega
      have i2 : (k : Int) < (H.length : Int) := by omega
      have hq := eql26
      have hgd := gd26
      have hE := eq3_zero p.nd
      have hH9 : H.length ≤ 90000 := by have := HL.out; omega
      have i3 : (L.length : Int) ≤ 90000 := by have := HL.out; omega
      have hlen : ∀ o1 o2, (Builtin.len_ #[104] 3 #[.map (some bm)]).run Try.prog ((wo.alloc o1).alloc o2) = .ok (.int .i64 (L.length : Int)) ((wo.alloc o1).alloc o2) := fun o1 o2 => by
        have := ((HM.out.1.alloc o1).alloc o2).len Try.underlying104 3
        rwa [HSz.out] at this
      have hwr : IntKind.i64.wrap ((L.length : Int) + 1) = (L.length : Int) + 1 := IntWalk.i64_in _ (by omega)
      have HStay := Lib.hid (fun (W : World) (hW : Below wo.heap.size wo W) (hp : pstep L p = L) => (show ReRel1 H (.slice (some ⟨bb, o, none⟩) H.length cc1) bm b1 w (.int .i64 ((k : Int) + 1)) W from
        ⟨k + 1, by omega, by simp, m, D, by omega, by rw [HSN.out, hp]; exact HM.out.below hW, by rw [HSN.out, hp]; exact HSz.out, own_grows HO.out hW, hb.trans (hW.mono hb.size), by have := hW.size; omega⟩))
      by_cases hz : p.nd = zeroI
      · rw [decide_eq_true hz] at hE
        have HZ := Lib.hid hz
        clear hz
        go_wp2
        refine ⟨?_, by simp [intOf]; omega⟩
        exact HStay.out _ ((((Grows.refl wo).alloc _).alloc _).below) (by unfold pstep; rw [if_pos (.inl HZ.out)])
      · rw [decide_eq_false hz] at hE
        have HZ := Lib.hid hz
        clear hz
        have HW := Lib.hid (fun (W : World) (hW : Below wo.heap.size wo W) => (show Calls Try.prog 60 #[.map (some bm), idV p.pa, idV p.nd, .int .i64 ((L.length : Int) + 1)] W (fun e w' => e = .returned (.bool (withinGo L (L.length + 1) p.pa p.nd)) ∧ Below W.heap.size W w') from by
          have := within_any (pfind L) p.pa p.nd (L.length + 1) bm m D W (HM.out.below hW) (by omega)
          rw [withinGo_false] at this
          simpa using this))
        unfold idV at HW
        obtain ⟨R, hRe⟩ : ∃ R, withinGo L (L.length + 1) p.pa p.nd = R := ⟨_, rfl⟩
        rw [hRe] at HW
        have HRe := Lib.hid hRe
        clear hRe
        go_wp2_with fail
        obtain ⟨w3, hw3⟩ : ∃ W, (wo.alloc (.cells (toC ⟨at_, p⟩).toArray 108)).alloc (.cells (plC p).toArray 71) = W := ⟨_, rfl⟩
        have hg3 : Grows wo w3 := by rw [← hw3]; exact ((Grows.refl wo).alloc _).alloc _
        have hr3 : w3.heap[wo.heap.size + 1]? = some (.cells (plC p).toArray 71 (0, 0)) := by
          rw [← hw3]
          have := heap_alloc_new (wo.alloc (.cells (toC ⟨at_, p⟩).toArray 108)) (.cells (plC p).toArray 71)
          rwa [World.size_alloc] at this
        unfold plC toC at hw3
        rw [hw3]
        have hk3 := hg3.below
        have hs3 := (Array.getElem?_eq_some_iff.1 hr3).1
        clear hw3 hg3 hlen
        refine (HW.out w3 hk3).mono ?_
        rintro e w4 ⟨rfl, hb4⟩
        have hk4 : Below wo.heap.size wo w4 := hk3.trans (hb4.mono hk3.size)
        have hr4 := (hb4.block _ hs3).trans hr3
        obtain ⟨b8, hb8⟩ : ∃ k, wo.heap.size + 1 = k := ⟨_, rfl⟩
        rw [hb8] at hr4 ⊢
        have HB8 := Lib.hid hb8
        have hs4 : b8 < w4.heap.size := (Array.getElem?_eq_some_iff.1 hr4).1
        have HK4 := Lib.hid hk4
        clear hr3 hb4 hk3 hs3 hk4 hb8
        cases R with
        | true =>
          clear hr4
          go_wp2
          refine ⟨?_, by simp [intOf]; omega⟩
          exact HStay.out _ HK4.out (by unfold pstep; rw [if_pos (.inr HRe.out)])
        | false =>
          have HNo := Lib.hid (show ¬ (p.nd = zeroI ∨ withinGo L (L.length + 1) p.pa p.nd = true) from fun h => by
            rcases h with h | h
            · exact HZ.out h
            · rw [HRe.out] at h; cases h)
          have HM4 := Lib.hid (HM.out.below HK4.out)
          have HP := Lib.hid (put_step (p := p) HLR.out HM.out HSz.out HNo.out)
          have hlk := obj_look_ok ok26 plV_inj HM4.out.1 Try.underlying104 zeroP (Try.zeroValue71 _) HM4.out.2 p.nd
          have d0 : w4.cell? ⟨b8, 0, none⟩ = some (.int .i64 p.nd.s.T) := cell_of_row _ _ 0 _ _ _ hr4
          have d1 : w4.cell? ⟨b8, 1, none⟩ = some (.int .i64 p.nd.s.R) := cell_of_row _ _ 1 _ _ _ hr4
          have d2 : w4.cell? ⟨b8, 2, none⟩ = some (.int .i64 p.nd.I) := cell_of_row _ _ 2 _ _ _ hr4
          have d3 : w4.cell? ⟨b8, 3, none⟩ = some (.int .i64 p.pa.s.T) := cell_of_row _ _ 3 _ _ _ hr4
          have d4 : w4.cell? ⟨b8, 4, none⟩ = some (.int .i64 p.pa.s.R) := cell_of_row _ _ 4 _ _ _ hr4
          have d5 : w4.cell? ⟨b8, 5, none⟩ = some (.int .i64 p.pa.I) := cell_of_row _ _ 5 _ _ _ hr4
          have d6 : w4.cell? ⟨b8, 6, none⟩ = some (.string p.nm) := cell_of_row _ _ 6 _ _ _ hr4
          have d7 : w4.cell? ⟨b8, 7, none⟩ = some (.bool p.dir) := cell_of_row _ _ 7 _ _ _ hr4
          have z0 : ∀ i, w4.frozen? ⟨b8, i, none⟩ = false := fun i => by simp [World.frozen?, hr4]
          have hbm8 : bm ≠ b8 := by have := HB8.out; have := HB1.out; omega
          have hmx : m < maxLen := by unfold maxLen; omega
          have HFin := Lib.hid (fun (X W : World) (hX : Below wo.heap.size wo X) (hXm : X.ownsMap Try.prog 26 (objElem plV) bm m D) (ho : W.ownsMap Try.prog 26 (objElem plV) bm (m + 1) (D.put (idK p.nd) (.held (putDir (pfind L p.nd) p)))) (hg : X.grownBy W (some bm)) => (show ReRel1 H (.slice (some ⟨bb, o, none⟩) H.length cc1) bm b1 w (.int .i64 ((k : Int) + 1)) W from by
            obtain ⟨o1, om1, om2⟩ := map_walk hXm
            have hXo := own_grows HO.out hX
            have hXb := hb.trans (hX.mono hb.size)
            refine ⟨k + 1, by omega, by simp, m + 1, _, by omega, ⟨ho, by rw [HSN.out]; exact HP.out.1⟩, by rw [HSN.out]; exact HP.out.2, hXo.kept hg (.inr (own_ne_walk hXo om1 om2).symm), hXb.grown hg hXb.size (fun j hj => by cases hj; have := HB1.out; omega), ?_⟩
            have := hg.size
            have := hX.size
            omega))
          unfold idV at hlk
          clear hr4
          cases hf : pfind L p.nd with
          | none =>
            rw [hf] at hlk HP HFin
            simp only [Option.isSome_none, Option.getD_none] at hlk
            simp only [putDir] at HP HFin
            unfold plV at hlk
            clear hf
            go_wp2_with (at_mapUpdate; refine wpList_mapUpdate_own _ rfl _ _ _ 104 rfl 26 71 keyed26 Try.underlying104 (objElem plV) bm m D rfl (HM4.out.1.alloc _) hmx (idV p.nd) (plV p) (idK p.nd) rfl rfl (key26 p.nd) (.held p) [] (objElem_mk plV_inj p) ?_; intro w5 hown5 hgrow5)
            have HX := Lib.hid (HFin.out _ w5 (HK4.out.alloc HK4.out.size _) (HM4.out.1.alloc _) hown5 hgrow5)
            clear hown5 hgrow5 d0 d1 d2 d3 d4 d5 d6 d7
            go_wp2
            go_roundw
            case rel => exact HX.out
            case measure => simp [intOf]; omega
          | some q =>
            rw [hf] at hlk HP HFin
            simp only [Option.isSome_some, Option.getD_some] at hlk
            simp only [putDir] at HP HFin
            unfold plV at hlk
            clear hf
            go_wp2_with (at_mapUpdate; refine wpList_mapUpdate_own _ rfl _ _ _ 104 rfl 26 71 keyed26 Try.underlying104 (objElem plV) bm m D rfl ((HM4.out.1.setCell (a := ⟨b8, 7, none⟩) hbm8 _).alloc _) hmx (idV p.nd) (plV { p with dir := q.dir }) (idK p.nd) rfl rfl (key26 p.nd) (.held { p with dir := q.dir }) [] (objElem_mk plV_inj _) ?_; intro w5 hown5 hgrow5)
            have HX := Lib.hid (HFin.out _ w5 ((HK4.out.setCell (p := ⟨b8, 7, none⟩) (by have := HB8.out; simp; omega) _).alloc (by have := HK4.out.size; simpa [World.setCell] using this) _) ((HM4.out.1.setCell (a := ⟨b8, 7, none⟩) hbm8 _).alloc _) hown5 hgrow5)
            clear hown5 hgrow5 d0 d1 d2 d3 d4 d5 d6 d7
            go_wp2
            go_roundw
            case rel => exact HX.out
            case measure => simp [intOf]; omega
    · obtain rfl : k = H.length := by omega
      rw [List.take_length] at hLe
      have HLE := Lib.hid hLe
      have HLR := Lib.hid hLr
      have hlen : (Builtin.len_ #[104] 3 #[.map (some bm)]).run Try.prog wo = .ok (.int .i64 (L.length : Int)) wo := by
        have := HM.out.1.len Try.underlying104 3
        rwa [HSz.out] at this
      have hH9 : H.length ≤ 90000 := by have := HL.out; omega
      have hL9 : L.length ≤ 90000 := by omega
      have hbw := hb.size
      clear hLe hLr hlt hk HO
      go_wp2_with (at_make; refine wpList_make_own _ rfl _ _ 60 rfl w.heap.size 71 i0 _ 8 Try.underlying60 hi hz0 hz1 .i64 .i64 _ L.length rfl rfl rfl (by rw [hz2]; omega) (by unfold maxLen; omega) hbw ?_; intro w5 hown5 hgrow5)
      have HM5 := Lib.hid (HM.out.1.kept hgrow5 (by simp))
      have hb5 : Below w.heap.size w w5 := hb.grown hgrow5 hb.size (fun j hj => by cases hj)
      have HO5 := Lib.hid hown5
      obtain ⟨g5, hg5⟩ : ∃ k, wo.heap.size = k := ⟨_, rfl⟩
      rw [hg5] at HO5 ⊢
      have hF := HM.out.2
      have HF := Lib.hid hF
      have hown := HM5.out
      clear hown5 hgrow5 hb hlen HM hF hg5 hsz hbw
      obtain ⟨W3, hrun, hrg0, hg0, hs0⟩ := hown.range keyed26 Try.underlying104
      go_wp2
      rw [hrun]
      have hb13 : Below w.heap.size w W3 := hb5.grown hg0 hb5.size (fun j hj => by cases hj)
      have hO3 := Lib.hid (HO5.out.kept hg0 (.inr (by simp [Value.ownBlock])))
      obtain ⟨r, hr⟩ : ∃ r, w5.heap.size = r := ⟨_, rfl⟩
      have hrw : w.heap.size ≤ r := by have := hb5.size; omega
      have HSZ := Lib.hid hown.size_le
      rw [hr] at hrg0 ⊢
      clear hg0 hs0 hb5 HO5 hown hr HM5 hrun
      go_wp2
      go_loopw [11] (fun out wr => ReRel2 L D bm r m w out wr) (fun _ wr => wr.rangeLeft bm r)
      case atStart =>
        refine ⟨_, _, [], hrg0, ?_, Come.start _ D, by simp, hO3.out, hb13⟩
        simpa using HSZ.out
      case round =>
        clear hrg0 hO3 hb13
        obtain ⟨left, cnt, P, hrg, hcs, hC, hPL, hO, hb⟩ := hrel
        obtain ⟨Av, cv, rfl, hLc, hcm2⟩ := (Rd.of_own hO).form
        have HO := Lib.hid hO
        have HC := Lib.hid hC
        have HPL := Lib.hid hPL
        have HRG := Lib.hid hrg
        obtain ⟨wo, rfl⟩ : ∃ wo : World, wo = wr := ⟨_, rfl⟩
        clear hO hC hPL
        go_wp2_with (at_next; refine wpList_next_ranges _ rfl _ rfl 26 keyed26 (objElem plV) idV plV (fun key kl hk => by obtain ⟨a, h, _⟩ := key26_inv hk; exact ⟨a, h⟩) (fun v y hv => by obtain ⟨a, h, _⟩ := objElem_inv hv; exact ⟨a, h⟩) bm r m _ _ _ rfl hrg ?_ ?_)
        · intro hc0 hl0
          have HL0 := Lib.hid hl0
          clear hrg HRG hcm2 hl0
          go_wp2_with fail
          refine (sortPl_own P _ w.heap.size wo HO.out (by omega)).mono ?_
          rintro e w' ⟨rfl, ys, hperm, hsort, hown', hb'⟩
          have HO' := Lib.hid hown'
          have HS := Lib.hid hsort
          have HP := Lib.hid hperm
          have HB := Lib.hid (hb.trans hb')
          have HE := Lib.hid (gather_same HLR.out HPL.out HC.out.1 (fun p hp => (HC.out.2 p.nd).2 ⟨by rw [HF.out.has, (HLR.out.find p).2 hp]; rfl, HL0.out _⟩) hperm hsort)
          clear hown' hsort hperm hb hb' HO
          go_wp2
          go_ret
          exact ⟨_, H, rfl, HTO.out, HL.out, by rw [HLE.out, ← HE.out]; simpa [HP.out.length_eq] using HO'.out, HB.out⟩
        · intro x p kl y yp w2 cnt2 hkey hlk hv hat hrg2 hlt hg2 hs2 hen
          obtain ⟨x', e1, rfl⟩ := key26_inv hkey
          obtain rfl := idV_inj e1
          rw [objElem_mk plV_inj] at hv
          cases hv
          have hfx := fmap_come HF.out hat
          have hxn := pfind_nd hfx
          have HPM := Lib.hid (pfind_mem hfx)
          obtain ⟨oi, hoi, hoiw⟩ := hrg.iter_walk
          have hb2 : Below w.heap.size w w2 := hb.grown hg2 hb.size (fun j hj => by cases hj; exact hrw)
          have hO2 := Lib.hid (HO.out.kept hg2 (.inr (own_ne_walk HO.out hoi hoiw).symm))
          have HC2 := Lib.hid (show Come idK D (fun z => left z && !z.sameKey (idK x)) ((P ++ [p]).map Place.nd) from by
            rw [List.map_append, List.map_singleton, hxn]
            exact HC.out.step ok26 hlk hat)
          have HRG2 := Lib.hid hrg2
          have HLT := Lib.hid hlt
          have hcs2 : (P ++ [p]).length + cnt2 ≤ m := by simp; omega
          clear hkey hlk hat hrg2 hrg hg2 hs2 e1 hoi hoiw HO HC hb hfx hxn
          unfold idV plV at hen
          unfold idV plV
          go_wp2_with (at_builtin; refine wpList_append_own _ rfl _ _ 60 rfl w.heap.size 71 i0 _ 8 72 Try.underlying60 hi hz0 hz1 hz2 rfl (by decide) _ _ _ rfl ((hO2.out.alloc _).alloc _) ⟨w2.heap.size + 1, 0, none⟩ 1 1 (plC p) rfl rfl ?qc2 (plC_one p) ?qc4 ?qc5 ?qc6 ?_)
          case qc2 =>
            have := cells_new (w2.alloc (.cells (plC p).toArray 71)) (plC p) 71
            rw [World.size_alloc] at this
            exact this
          case qc4 => unfold maxLen; omega
          case qc5 => omega
          case qc6 => have := hb2.size; simp; omega
          intro v' W4 hown hgrow _
          obtain ⟨g, cap, rfl, hgB, hgc, hgm, ho4⟩ := own_snoc hown
          have hO2n : (some bm ≠ (Value.slice Av P.length cv).ownBlock ∧ some r ≠ (Value.slice Av P.length cv).ownBlock) := by
            obtain ⟨o1, h1, h2⟩ := map_walk HRG2.out.owns
            obtain ⟨o2, h3, h4⟩ := HRG2.out.iter_walk
            exact ⟨own_ne_walk hO2.out h1 h2, own_ne_walk hO2.out h3 h4⟩
          have hrg4 := ((HRG2.out.alloc (.cells (plC p).toArray 71)).alloc (.cells (plC p).toArray 71)).kept hgrow hO2n.1 hO2n.2
          have hb4 : Below w.heap.size w W4 := ((hb2.alloc hb2.size _).alloc (by have := hb2.size; simp; omega) _).grown hgrow (by have := hb2.size; simp; omega) (fun j hj => by
            rcases (hO2.out).lt j hj with ⟨h1, _⟩
            exact h1)
          have HRG4 := Lib.hid hrg4
          have HO4 := Lib.hid ho4
          have HPM4 := Lib.hid (show ∀ q ∈ P ++ [p], q ∈ L from fun q hq => by
            rcases List.mem_append.1 hq with h | h
            · exact HPL.out q h
            · rw [List.mem_singleton] at h; subst h; exact HPM.out)
          have hpl : P.length + 1 = (P ++ [p]).length := by simp
          rw [hpl] at HO4 ⊢
          clear hgrow hown ho4 hrg4 hO2n hpl
          go_wp2
          go_roundw
          case rel => exact ⟨_, cnt2, _, HRG4.out, hcs2, HC2.out, HPM4.out, HO4.out, hb4⟩
          case measure => rw [HRG4.out.left_eq, HRG.out.left_eq]; exact HLT.out
end Go.Proofs.Ytejafcdlkpmemaa
