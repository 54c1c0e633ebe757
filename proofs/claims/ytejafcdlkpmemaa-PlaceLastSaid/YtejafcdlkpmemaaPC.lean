/- The program's sorted: what is told, the first of each time, rising. -/
import Derived.Test.YtejafcdlkpmemaaPB
import Derived.Test.YtejafcdlkpmemaaEM
import Derived.Test.YtejafcdlkpmemaaF
import Derived.Deep.AppendLies
import Derived.Deep.RegionHeld3
namespace Go.Proofs.Ytejafcdlkpmemaa
open Go Go.RowKit Go.Maps Go.Shelf
def zipT (a : List Id) (b : List Place) : List Told := List.zipWith Told.mk a b
theorem zipT_len (a : List Id) (b : List Place) : (zipT a b).length = min a.length b.length := by simp [zipT]
def timesI (s : Id) (l : List Id) : Nat := (l.filter fun x => decide (x = s)).length
theorem timesI_succ {a : List Id} {k : Nat} (h : k < a.length) (s : Id) : timesI s (a.take (k + 1)) = timesI s (a.take k) + if a[k] = s then 1 else 0 := by
  unfold timesI
  rw [List.take_succ_eq_append_getElem h, List.filter_append, List.length_append]
  by_cases e : a[k] = s <;> simp [e]
theorem zipT_at {a : List Id} {b : List Place} {k : Nat} (h : k ≤ min a.length b.length) : ((zipT a b).take k).map Told.at_ = a.take k := by
  apply List.ext_getElem
  · simp [zipT]; omega
  · intro i h1 h2
    simp [zipT]
theorem zipT_succ {a : List Id} {b : List Place} {k : Nat} (h1 : k < a.length) (h2 : k < b.length) : (zipT a b).take (k + 1) = (zipT a b).take k ++ [⟨a[k], b[k]⟩] := by
  have h : k < (zipT a b).length := by rw [zipT_len]; omega
  rw [List.take_succ_eq_append_getElem h]
  simp [zipT]
theorem timesI_zero {a : List Id} {b : List Place} {k : Nat} (h : k ≤ min a.length b.length) (s : Id) : timesI s (a.take k) = 0 ↔ ∀ g ∈ (zipT a b).take k, g.at_ ≠ s := by
  unfold timesI
  rw [← zipT_at h, List.length_eq_zero_iff, List.filter_eq_nil_iff]
  constructor
  · intro h1 g hg e
    exact h1 g.at_ (List.mem_map.2 ⟨g, hg, rfl⟩) (by simp [e])
  · intro h1 x hx
    obtain ⟨g, hg, rfl⟩ := List.mem_map.1 hx
    simpa using h1 g hg
def ToldRel (a : List Id) (b : List Place) (w : World) (bm : Nat) (out i : Value) (wr : World) : Prop :=
  ∃ k : Nat, k ≤ min a.length b.length ∧ i = .int .i64 k ∧ ∃ (D : DataW HH) (L : List Told), wr.ownsMap Try.prog 26 (plainElem Try.prog 3) bm k D ∧ (∀ s, D.atKey (idK s) (.lit (.int .i64 0)) = .lit (.int .i64 (timesI s (a.take k) : Nat))) ∧
    wr.ownsRow w.heap.size 108 11 out L.length (L.flatMap toC) ∧ L.Nodup ∧ (∀ h, h ∈ L ↔ FirstK Told.at_ ((zipT a b).take k) h) ∧ L.length ≤ k ∧ Below w.heap.size w wr
def ToldPost (a : List Id) (b : List Place) (w : World) (e : Ending) (w' : World) : Prop :=
  ∃ (v : Value) (H : List Told), e = .returned v ∧ w'.ownsRow w.heap.size 108 11 v H.length (H.flatMap toC) ∧ H.Pairwise (fun x y => x.at_.Lt y.at_) ∧ (∀ h, h ∈ H ↔ FirstK Told.at_ (zipT a b) h) ∧ H.length ≤ a.length ∧ Below w.heap.size w w'
theorem told_strict : ∀ {L : List Told}, (∀ g h, g ∈ L → h ∈ L → g.at_ = h.at_ → g = h) → L.Pairwise (fun p q => ¬ q.at_.Lt p.at_) → L.Nodup → L.Pairwise (fun p q => p.at_.Lt q.at_)
  | [], _, _, _ => List.Pairwise.nil
  | a :: L, hu, h, hn => by
    rw [List.pairwise_cons] at h
    rw [List.nodup_cons] at hn
    refine List.pairwise_cons.2 ⟨fun b hb => ?_, told_strict (fun g h hg hh => hu g h (by simp [hg]) (by simp [hh])) h.2 hn.2⟩
    rcases idSTO.total a.at_ b.at_ with t | t | t
    · exact t
    · exact absurd (hu a b (by simp) (by simp [hb]) t ▸ hb) hn.1
    · exact absurd t (h.1 b hb)
theorem info108 : (Try.prog.info? 108).map (fun i => (i.zero, i.size, i.bytes)) = some (some (.agg #[.int .i64 0, .int .i64 0, .int .i64 0, .int .i64 0, .int .i64 0, .int .i64 0, .int .i64 0, .int .i64 0, .int .i64 0, .string ⟨#[]⟩, .bool false]), 11, 96) := by kernel_rfl
set_option maxRecDepth 100000 in
set_option maxHeartbeats 4000000 in
theorem psorted_any (a : List Id) (b : List Place) (A A' : Option Addr) (n c n' c' B : Nat) (w : World) (hR : Rd w B 3 (.slice A n c) n (a.flatMap idC)) (hR' : Rd w B 8 (.slice A' n' c') n' (b.flatMap plC)) (hB : B ≤ w.heap.size) (hn : n ≤ 100000) :
    Calls Try.prog 59 #[.slice A n c, .slice A' n' c'] w (ToldPost a b w) := by
  obtain rfl := len_of idC 3 (fun _ => rfl) (by decide) hR.1
  obtain rfl := len_of plC 8 (fun _ => rfl) (by decide) hR'.1
  have HR := Lib.hid hR
  have HR' := Lib.hid hR'
  clear hR hR'
  obtain ⟨i0, hi, hz0, hz1, hz2⟩ := info_parts info108
  have hmm := @run_makeMap Try.prog
  go_enter Try.func59, Try.ntmps59
  go_wp2
  obtain ⟨w1, hw1⟩ : ∃ W, (w.alloc (.cells #[] 108)).alloc (.map #[] 0) = W := ⟨_, rfl⟩
  have hb1 : Below w.heap.size w w1 := by rw [← hw1]; exact (((Grows.refl w).alloc _).alloc _).below
  have he1 : w1.heap[w.heap.size]? = some (.cells #[] 108 (0, 0)) := by rw [← hw1]; exact (Below.heap_alloc _ _ _ (by simp)).trans (heap_alloc_new w _)
  have hm1 : w1.ownsMap Try.prog 26 (plainElem Try.prog 3) (w.heap.size + 1) 0 (DataW.map ([] : List (Lit × DataW HH))) := by
    rw [← hw1]
    have := World.ownsMap_made (H := HH) (w.alloc (.cells #[] 108)) Try.prog 26 (plainElem Try.prog 3)
    rw [World.size_alloc] at this
    exact this
  have hO1 := Lib.hid (own_empty (base := w.heap.size) (K := 11) (Nat.le_refl _) he1)
  have HM1 := Lib.hid hm1
  rw [hw1]
  obtain ⟨bm, hbm⟩ : ∃ b, w.heap.size + 1 = b := ⟨_, rfl⟩
  have hbw : w.heap.size < bm := by omega
  rw [hbm] at HM1 ⊢
  have hmin : (min (a.length : Int) (b.length : Int)) = ((min a.length b.length : Nat) : Int) := by omega
  obtain ⟨N, hN⟩ : ∃ N, min a.length b.length = N := ⟨_, rfl⟩
  rw [hmin, hN]
  have hNa : N ≤ a.length := by omega
  have hNb : N ≤ b.length := by omega
  have HN := Lib.hid hN
  clear hw1 he1 hm1 hbm hmin hN hmm
  go_loopw [5, 15] (fun out i wr => ToldRel a b w bm out i wr) (fun _ i _ => N - (intOf i).toNat)
  case atStart =>
    refine ⟨0, Nat.zero_le _, rfl, .map [], [], HM1.out, fun s => by simp [timesI, DataW.atKey], hO1.out, List.nodup_nil, fun h => by simp [FirstK], Nat.le_refl _, hb1⟩
  case round =>
    clear hO1 HM1 hb1
    obtain ⟨k, hk, rfl, D, L, hM, hT, hO, hnd, hF, hL, hb⟩ := hrel
    have HND := Lib.hid hnd
    clear hnd
    rw [HN.out] at hk
    obtain ⟨Av, cv, rfl, hLc, hcm2⟩ := (Rd.of_own hO).form
    have HO := Lib.hid hO
    have HF := Lib.hid hF
    have HT := Lib.hid hT
    have HM := Lib.hid hM
    clear hO hF hT hM hcm2
    obtain ⟨wo, rfl⟩ : ∃ wo : World, wo = wr := ⟨_, rfl⟩
    have hwl := hb.size
    by_cases hlt : k < N
    · obtain ⟨ba, oa, rfl, hBa, hca⟩ := rd_at idC 3 (fun _ => rfl) (by decide) HR.out (show k < a.length by omega)
      obtain ⟨bb, ob, rfl, hBb, hcb⟩ := rd_at plC 8 (fun _ => rfl) (by decide) HR'.out (show k < b.length by omega)
      obtain ⟨x, hx⟩ : ∃ x, a[k]'(by omega) = x := ⟨_, rfl⟩
      obtain ⟨y, hy⟩ : ∃ y, b[k]'(by omega) = y := ⟨_, rfl⟩
      rw [hx] at hca
      rw [hy] at hcb
      have HX := Lib.hid hx
      have HY := Lib.hid hy
      have hS := Lib.hid (fun W' (hW : Below w.heap.size w W') => (show W'.cell? ⟨ba, oa + k * 3, none⟩ = some (.int .i64 x.s.T) ∧ W'.cell? ⟨ba, oa + k * 3 + 1, none⟩ = some (.int .i64 x.s.R) ∧ W'.cell? ⟨ba, oa + k * 3 + 2, none⟩ = some (.int .i64 x.I) ∧ W'.cell? ⟨bb, ob + k * 8, none⟩ = some (.int .i64 y.nd.s.T) ∧ W'.cell? ⟨bb, ob + k * 8 + 1, none⟩ = some (.int .i64 y.nd.s.R) ∧ W'.cell? ⟨bb, ob + k * 8 + 2, none⟩ = some (.int .i64 y.nd.I) ∧ W'.cell? ⟨bb, ob + k * 8 + 3, none⟩ = some (.int .i64 y.pa.s.T) ∧ W'.cell? ⟨bb, ob + k * 8 + 4, none⟩ = some (.int .i64 y.pa.s.R) ∧ W'.cell? ⟨bb, ob + k * 8 + 5, none⟩ = some (.int .i64 y.pa.I) ∧ W'.cell? ⟨bb, ob + k * 8 + 6, none⟩ = some (.string y.nm) ∧ W'.cell? ⟨bb, ob + k * 8 + 7, none⟩ = some (.bool y.dir) from
        ⟨(hW.cell (p := ⟨ba, oa + k * 3, none⟩) (show ba < w.heap.size by omega)).trans (hca 0 _ rfl), (hW.cell (p := ⟨ba, oa + k * 3 + 1, none⟩) (show ba < w.heap.size by omega)).trans (hca 1 _ rfl), (hW.cell (p := ⟨ba, oa + k * 3 + 2, none⟩) (show ba < w.heap.size by omega)).trans (hca 2 _ rfl), (hW.cell (p := ⟨bb, ob + k * 8, none⟩) (show bb < w.heap.size by omega)).trans (hcb 0 _ rfl), (hW.cell (p := ⟨bb, ob + k * 8 + 1, none⟩) (show bb < w.heap.size by omega)).trans (hcb 1 _ rfl), (hW.cell (p := ⟨bb, ob + k * 8 + 2, none⟩) (show bb < w.heap.size by omega)).trans (hcb 2 _ rfl), (hW.cell (p := ⟨bb, ob + k * 8 + 3, none⟩) (show bb < w.heap.size by omega)).trans (hcb 3 _ rfl), (hW.cell (p := ⟨bb, ob + k * 8 + 4, none⟩) (show bb < w.heap.size by omega)).trans (hcb 4 _ rfl), (hW.cell (p := ⟨bb, ob + k * 8 + 5, none⟩) (show bb < w.heap.size by omega)).trans (hcb 5 _ rfl), (hW.cell (p := ⟨bb, ob + k * 8 + 6, none⟩) (show bb < w.heap.size by omega)).trans (hcb 6 _ rfl), (hW.cell (p := ⟨bb, ob + k * 8 + 7, none⟩) (show bb < w.heap.size by omega)).trans (hcb 7 _ rfl)⟩))
      clear hca hcb hx hy
      obtain ⟨t, ht⟩ : ∃ t, timesI x (a.take k) = t := ⟨_, rfl⟩
      have HTt := Lib.hid ht
      have htk : t ≤ k := by rw [← ht]; unfold timesI; exact Nat.le_trans (List.length_filter_le _ _) (by simp; omega)
      have i1 : (0 : Int) ≤ (k : Int) := by omega
      have i2 : (k : Int) < (a.length : Int) := by omega
      have i3 : (k : Int) < (b.length : Int) := by omega
      have hw : IntKind.i64.wrap ((t : Int) + 1) = (t : Int) + 1 := IntWalk.i64_in _ (by omega)
      clear ht
      have hbd : Below w.heap.size w wo.drew := hb.drew
      obtain ⟨c0, c1, c2, _⟩ := hS.out wo.drew hbd
      obtain ⟨cl, hlk, hat, _⟩ := HM.out.drew.lookup_int keyed26 Try.underlying133 Try.underlying3 (Try.zeroValue3 _) (key26 x)
      have hcl : cl = (t : Int) := by
        have := HT.out x
        rw [HTt.out, hat] at this
        simpa using this
      subst hcl
      obtain ⟨v0, st0, w1, w2, e1, e2, e3, e4, hM2, hg2⟩ := own_entry (val := .int .i64 ((t : Int) + 1)) HM.out.drew law26 Try.underlying133 (fun u => Try.zeroValue3 u) (by unfold maxLen; omega) (key26 x) (plainElem_int Try.underlying3 ((wf64 _).2 (by unfold I64; omega)))
      have hv0 : v0 = .int .i64 (t : Int) := by
        rw [hlk] at e1
        cases e1
        rfl
      subst hv0
      have HM2 := Lib.hid hM2
      have HG2 := Lib.hid hg2
      unfold idV at e1 e2 e3
      clear hlk hat hM2 hg2
      unfold goInt at e2 e4
      go_wp2
      go_region
      have hb2 : Below w.heap.size w w2 := hbd.grown HG2.out hbd.size (fun j hj => by cases hj; omega)
      obtain ⟨g0, g1, g2, g3, g4, g5, g6, g7, g8, g9, g10⟩ := hS.out w2 hb2
      obtain ⟨cl2, hlk2, hat2, _⟩ := HM2.out.lookup_int keyed26 Try.underlying133 Try.underlying3 (Try.zeroValue3 _) (key26 x)
      have hcl2 : cl2 = (t : Int) + 1 := by
        rw [Maps.atKey_put_same HM.out.isMap (keyed26.key (key26 x))] at hat2
        simpa using hat2.symm
      subst hcl2
      unfold idV at hlk2
      clear hat2 e1 e2 e3 e4 c0 c1 c2
      obtain ⟨om, hm1, hm2⟩ := map_walk HM.out.drew
      have HO2 := Lib.hid ((own_drew HO.out).kept HG2.out (.inr (own_ne_walk (own_drew HO.out) hm1 hm2).symm))
      have HD2 := Lib.hid (fun (s : Id) => (show (D.put (idK x) (.lit (.int .i64 ((t : Int) + 1)))).atKey (idK s) (.lit (.int .i64 0)) = .lit (.int .i64 (timesI s (a.take (k + 1)) : Nat)) from by
        rw [timesI_succ (show k < a.length by omega), HX.out]
        by_cases hs : x = s
        · subst hs
          rw [Maps.atKey_put_same HM.out.isMap (keyed26.key (key26 x)), HTt.out]
          simp
        · rw [Maps.atKey_put_other (fun e => hs (idK_inj e).symm), HT.out s]
          simp [hs]))
      have HZ := Lib.hid (zipT_succ (a := a) (b := b) (k := k) (by omega) (by omega))
      have HTZ := Lib.hid (timesI_zero (a := a) (b := b) (k := k) (by have := HN.out; omega) x)
      clear hm1 hm2
      by_cases ht0 : t = 0
      · subst ht0
        have k1 : Below w.heap.size w w2.drew := hb2.drew
        obtain ⟨om, hm1, hm2⟩ := map_walk HM2.out
        have hne := own_ne_walk HO2.out hm1 hm2
        clear hm1 hm2
        go_wp2
        go_region_held3 (fun w' => w'.cell? ⟨ba, oa + k * 3, none⟩ = some (.int .i64 x.s.T) ∧ w'.cell? ⟨ba, oa + k * 3 + 1, none⟩ = some (.int .i64 x.s.R) ∧ w'.cell? ⟨ba, oa + k * 3 + 2, none⟩ = some (.int .i64 x.I) ∧ w'.cell? ⟨bb, ob + k * 8, none⟩ = some (.int .i64 y.nd.s.T) ∧ w'.cell? ⟨bb, ob + k * 8 + 1, none⟩ = some (.int .i64 y.nd.s.R) ∧ w'.cell? ⟨bb, ob + k * 8 + 2, none⟩ = some (.int .i64 y.nd.I) ∧ w'.cell? ⟨bb, ob + k * 8 + 3, none⟩ = some (.int .i64 y.pa.s.T) ∧ w'.cell? ⟨bb, ob + k * 8 + 4, none⟩ = some (.int .i64 y.pa.s.R) ∧ w'.cell? ⟨bb, ob + k * 8 + 5, none⟩ = some (.int .i64 y.pa.I) ∧ w'.cell? ⟨bb, ob + k * 8 + 6, none⟩ = some (.string y.nm) ∧ w'.cell? ⟨bb, ob + k * 8 + 7, none⟩ = some (.bool y.dir))
          (first | exact hS.out _ (by assumption) | exact hS.out _ (k1.alloc k1.size _) | go_keep)
          ((refine step_append_lies _ (by rfl) _ _ _ (by rfl) w.heap.size 108 i0 _ 11 96 Try.underlying105 hi hz0 hz1 hz2 rfl (by omega) _ L.length _ (by rfl) ((own_drew HO2.out).alloc _) ⟨w2.heap.size, 0, none⟩ 1 1 (toC ⟨x, y⟩) (by rfl) (by rfl) (cells_new w2.drew (toC ⟨x, y⟩) 108) (toC_one _) (by omega) (by unfold maxLen; omega) (by omega) (by have := k1.size; simp at this ⊢; omega) _ (by rfl) ?_
            intro g cap W4 hown hgrow hat hgl
            have hb4 : Below w.heap.size w W4 := (k1.alloc k1.size _).grown hgrow (by have := k1.size; simp at this ⊢; omega) (fun j hj => (HO2.out.lt j hj).1)))
        have HO4 := Lib.hid (show W4.ownsRow w.heap.size 108 11 (.slice (some ⟨g, 0, none⟩) (L.length + 1) cap) (L ++ [(⟨x, y⟩ : Told)]).length ((L ++ [(⟨x, y⟩ : Told)]).flatMap toC) from by simpa using hown)
        have HM4 := Lib.hid ((HM2.out.drew.alloc (.cells (toC ⟨x, y⟩).toArray 108)).kept hgrow hne)
        clear hown hgrow hat hgl k1
        go_wp2
        refine ⟨⟨k + 1, by rw [HN.out]; omega, by go_num, _, L ++ [⟨x, y⟩], HM4.out, HD2.out, HO4.out, List.nodup_append.2 ⟨HND.out, by simp, fun g hg g' hg' e => by
          rw [List.mem_singleton] at hg'
          subst hg'
          subst e
          exact (HTZ.out).1 HTt.out _ (firstK_mem ((HF.out _).1 hg)) rfl⟩, fun h => ?_, by simp; omega, hb4⟩, by simp [intOf]; omega⟩
        rw [HZ.out, firstK_snoc, List.mem_append, List.mem_singleton, HF.out h, HX.out, HY.out]
        constructor
        · rintro (h1 | rfl)
          · exact .inl h1
          · exact .inr ⟨rfl, (HTZ.out).1 HTt.out⟩
        · rintro (h1 | ⟨rfl, _⟩)
          · exact .inl h1
          · exact .inr rfl
      · have hne : ((t : Int) + 1 == 1) = false := by simp; omega
        go_wp2
        refine ⟨⟨k + 1, by rw [HN.out]; omega, by go_num, _, L, HM2.out, HD2.out, HO2.out, HND.out, fun h => ?_, by omega, hb2⟩, by simp [intOf]; omega⟩
        rw [HZ.out, firstK_snoc, HF.out h, HX.out, HY.out]
        refine ⟨.inl, fun h1 => h1.elim id fun h2 => absurd (HTt.out.symm.trans ((HTZ.out).2 h2.2)) ht0⟩
    · have hk2 : k = N := by omega
      subst hk2
      go_wp2_with fail
      refine (sortTo_own L _ w.heap.size wo HO.out (by omega)).mono ?_
      rintro e w' ⟨rfl, ys, hp, hs, ho, hb3⟩
      have HP := Lib.hid hp
      have HS := Lib.hid hs
      have HO3 := Lib.hid ho
      have hb4 := hb.trans hb3
      clear hp hs ho hb3 hb HO
      go_wp2
      go_ret
      have hz : (zipT a b).take k = zipT a b := List.take_of_length_le (by rw [zipT_len, HN.out]; exact Nat.le_refl _)
      have hm : ∀ h, h ∈ ys ↔ FirstK Told.at_ (zipT a b) h := fun h => by rw [HP.out.mem_iff, HF.out h, hz]
      refine ⟨_, ys, rfl, HO3.out, ?_, hm, by rw [HP.out.length_eq]; omega, hb4⟩
      refine told_strict (fun g h hg hh => firstK_same ((hm g).1 hg) ((hm h).1 hh)) (HS.out.imp fun {p q} h1 h2 => ?_) (HP.out.nodup_iff.2 HND.out)
      have := (icmp_id_neg q.at_ p.at_).2 h2
      unfold tcmp at h1
      omega
end Go.Proofs.Ytejafcdlkpmemaa
